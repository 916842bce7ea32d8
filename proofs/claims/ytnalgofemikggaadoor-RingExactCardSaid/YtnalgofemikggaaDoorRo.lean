/- The arguments of the laws of layer 2. -/
import Derived.Test.YtnalgofemikggaaDoorRh
import Derived.Test.YtnalgofemikggaaDoorOp
import Derived.Test.YtnalgofemikggaaDoorCards
import Derived.Test.YtnalgofemikggaaDoorTie
import Derived.WalkKit
import Derived.Deep.DeepHandedRow
import Derived.Lib.LaidTab
namespace Go.Proofs.YtnalgofemikggaaDoor
open Go.ChangeShapes Go.WideShapes Go.ChangeAt Go.RowKit
theorem own : ownKnob Tryd.prog.godebug = none := by kernel_rfl
theorem laidOut : laidOutB Tryd.prog = true := by kernel_rfl
theorem cells_i64 : Tryd.prog.cellsOf 2 = 1 := by kernel_rfl
theorem gNames : Tryd.prog.globalNamed "fretwork/ring.names" = some 0 := by kernel_rfl
theorem gNamesType : (Tryd.prog.globals[0]?).map (·.type) = some 54 := by kernel_rfl
theorem cellsNames : Tryd.prog.cellsOf 54 = 6 := by kernel_rfl
theorem cellsString : Tryd.prog.cellsOf 9 = 1 := by kernel_rfl
theorem cell_of_one {w : World} {a : Addr} {x : Value} (h : w.cells? 0 a 1 = some [x]) : w.cell? a = some x := by
  unfold World.cells? at h
  rw [if_pos (Nat.zero_le _)] at h
  have ha : a.add 0 = a := by cases a; simp [Addr.add]
  simp only [List.range_succ, List.range_zero, List.nil_append, List.mapM_cons, List.mapM_nil, ha, Option.bind_eq_bind, Option.pure_def, Option.bind_some, Option.bind_eq_some_iff, Option.some.injEq, List.cons.injEq, and_true] at h
  obtain ⟨c, hc, rfl⟩ := h
  exact hc
theorem spot_of {w : World} {a : Addr} {x : Value} (h : w.cell? a = some x) : a.spot = none ∧ a.block < w.heap.size := by
  unfold World.cell? at h
  split at h
  · rename_i c t fr hb
    constructor
    · split at h
      · cases h
      · rename_i hs
        cases hh : a.spot with
        | none => rfl
        | some _ => simp [hh] at hs
    · exact (Array.getElem?_eq_some_iff.1 hb).1
  · cases h
theorem slice_of_ok {P : Program} {w : World} {base : Nat} {t e : TypeId} {v c : Value} (ht : P.underlying t = some (.slice e)) (hv : Value.okWide P w .any base t v) (hc : v.cells.toList = [c]) (hs : ∃ a n k, c = .slice a n k) : v = c := by
  obtain ⟨a, n, k, rfl⟩ := hs
  unfold Value.okWide at hv
  simp only [ht] at hv
  cases v <;> simp_all [Value.cells, Cell.okWide, Cell.ok]
theorem cells_of_texts {H : Type} {enc : TypeId × Value → H} {P : Program} {w : World} {base : Nat} {sp : Nat → Bool} {held : Bool} {fuel : Nat} {t e : TypeId} {n : Nat} {cs : List Value} {zs : List (List UInt8)} {p : List MemPlace}
    (ht : P.underlying t = some (.array n e)) (he : P.underlying e = some .string) (hce : P.cellsOf e = 1) (hct : P.cellsOf t = n)
    (h : DataW.trod enc P w base sp held fuel t cs = some (.agg (zs.map fun z => .lit (.string z)), p)) : cs = zs.map fun z => Value.string ⟨z.toArray⟩ := by
  cases fuel with
  | zero => simp [DataW.trod] at h
  | succ fuel =>
    simp only [DataW.trod, ht, hce, hct, Nat.mul_one] at h
    split at h
    · rename_i hl
      obtain ⟨xs, hm, hx⟩ := Option.map_eq_some_iff.1 h
      have hxs : xs.map (·.1) = zs.map fun z => (DataW.lit (.string z) : DataW H) := by
        have := congrArg Prod.fst hx
        simpa using this
      have hxl : xs.length = n := by simpa using Lib.mapM_length hm
      have hzl : zs.length = n := by
        have := congrArg List.length hxs
        simp at this
        omega
      apply List.ext_getElem?
      intro i
      by_cases hi : i < n
      · obtain ⟨b, hb, hf⟩ := Lib.mapM_at hm i i (by simp [hi])
        obtain ⟨z, hc, rfl, _⟩ := DataW.trod_string he hf
        have h1 : cs[i]? = some (.string z) := by
          have := congrArg (·[0]?) hc
          simpa [List.getElem?_take, List.getElem?_drop] using this
        have h2 : (xs.map (·.1))[i]? = some (DataW.lit (.string z.data.toList) : DataW H) := by simp [hb]
        rw [hxs] at h2
        simp only [List.getElem?_map, Option.map_eq_some_iff, DataW.lit.injEq, Lit.string.injEq] at h2
        obtain ⟨z', hz', rfl⟩ := h2
        simp [h1, hz']
      · rw [List.getElem?_eq_none (by omega), List.getElem?_eq_none (by simp; omega)]
    · cases h
theorem names_of_laid {W : World} {l : List (String × DataW Unit)} (hl : l = [("fretwork/ring.names", Rows.laid_fretwork_ring_names)]) (h : laidMetH Tryd.prog l W) : NamesAt W := by
  subst hl
  have h' : laidMet Tryd.prog (("fretwork/ring.names", Rows.laid_fretwork_ring_names) :: []) W := h
  obtain ⟨ps, ⟨g', t', cs, fuel, p, q, hg', ht', hvar, hd, _, _⟩, _⟩ := h'
  obtain rfl := Option.some.inj (gNames.symm.trans hg')
  obtain rfl := Option.some.inj (gNamesType.symm.trans ht')
  have hc := cells_of_texts (zs := [[], [109, 105, 110, 112, 108, 117, 115], [111, 114, 97, 110, 100], [109, 105, 110, 102, 105, 114, 115, 116], [109, 105, 110, 115, 101, 99, 111, 110, 100], [112, 108, 117, 115, 116, 105, 109, 101, 115]]) Tryd.underlying54 Tryd.underlying9 cellsString cellsNames hd
  have hcell : ∀ i, W.cell? ⟨0, i, none⟩ = cs.toList[i]? := fun i => by simpa using World.var?_cell gNames hvar i
  rw [hc] at hcell
  have k0 := hcell 0
  have k1 := hcell 1
  have k2 := hcell 2
  have k3 := hcell 3
  have k4 := hcell 4
  have k5 := hcell 5
  simp at k0 k1 k2 k3 k4 k5
  exact ⟨(spot_of k0).2, k0, k1, k2, k3, k4, k5⟩
section
variable {H : Type} {enc : TypeId × Value → H} {W : World} {base : Nat} {v : Value} {d : DataW H} {p : List MemPlace}
theorem arg_i64s (hv : Value.okWide Tryd.prog W .any base 22 v) (h : DataW.Trod enc Tryd.prog W 0 (fun _ => true) true 22 v d p) :
    ∃ q l cap, v = .slice q (List.length l) cap ∧ l.length ≤ cap ∧ cap ≤ maxLen ∧ Sl .i64 W q l ∧ (∀ i, i < l.length → I64 (l.getD i 0)) := by
  obtain ⟨m, ho⟩ := opened_val h
  rcases opened_slice Tryd.underlying22 ho with hc | ⟨a, len, cap, hc, h1, h2, k, hk⟩
  · have := slice_of_ok Tryd.underlying22 hv hc ⟨_, _, _, rfl⟩
    subst this
    exact ⟨none, [], 0, rfl, Nat.le_refl _, Nat.zero_le _, fun h => absurd rfl h, fun i hi => absurd hi (Nat.not_lt_zero _)⟩
  · have := slice_of_ok Tryd.underlying22 hv hc ⟨_, _, _, rfl⟩
    subst this
    have hx : ∀ i, ∃ x, i < len → W.cell? (a.add i) = some (.int .i64 x) ∧ I64 x := by
      intro i
      by_cases hi : i < len
      · obtain ⟨xs, hxs, hop⟩ := hk i (by omega)
        obtain ⟨x, rfl, hw⟩ := opened_int Tryd.underlying2 hop
        rw [cells_i64, Nat.mul_one] at hxs
        exact ⟨x, fun _ => ⟨cell_of_one hxs, i64_of_wf hw⟩⟩
      · exact ⟨0, fun h => absurd h hi⟩
    obtain ⟨f, hf⟩ : ∃ f : Nat → Int, ∀ i, i < len → W.cell? (a.add i) = some (.int .i64 (f i)) ∧ I64 (f i) :=
      ⟨fun i => Classical.choose (hx i), fun i => Classical.choose_spec (hx i)⟩
    refine ⟨some a, (List.range len).map f, cap, by simp, by simpa using h1, h2, ?_, ?_⟩
    · intro hne
      have hl : 0 < len := by
        rcases Nat.eq_zero_or_pos len with h0 | h0
        · subst h0; simp at hne
        · exact h0
      obtain ⟨hs, hb⟩ := spot_of (hf 0 hl).1
      obtain ⟨b, o, sp⟩ := a
      simp [Addr.add] at hs hb
      subst hs
      refine ⟨b, o, rfl, hb, fun i hi => ?_⟩
      have hi' : i < len := by simpa using hi
      have := (hf i hi').1
      have e : Addr.add ⟨b, o, none⟩ i = ⟨b, o + i, none⟩ := by unfold Addr.add; split <;> simp_all
      rw [e] at this
      simpa [List.getD_eq_getElem?_getD, hi'] using this
    · intro i hi
      have hi' : i < len := by simpa using hi
      have := (hf i hi').2
      simpa [List.getD_eq_getElem?_getD, hi'] using this
end
end Go.Proofs.YtnalgofemikggaaDoor
