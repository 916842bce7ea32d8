/- The arguments of the laws of layer 2. -/
import Derived.Test.YtnalgofemikggaaDoorB2
import Derived.Test.YtnalgofemikggaaDoorCards
import Derived.Test.YtnalgofemikggaaDoorTie
import Derived.WalkKit
import Derived.Deep.DeepHandedRow
import Derived.Lib.LaidTab
namespace Go.Proofs.YtnalgofemikggaaDoor
open Go.ChangeShapes Go.WideShapes Go.ChangeAt Go.RowKit
theorem own : ownKnob Tryd.prog.godebug = none := by kernel_rfl
theorem laidOut : laidOutB Tryd.prog = true := by kernel_rfl
theorem cells_i64 : Tryd.prog.cellsOf 2 = 1 := by kernel_rfl
theorem gNames : Tryd.prog.globalNamed "fretwork/ring.names" = some 0 := by kernel_rfl
theorem gNamesType : (Tryd.prog.globals[0]?).map (·.type) = some 54 := by kernel_rfl
theorem cellsNames : Tryd.prog.cellsOf 54 = 6 := by kernel_rfl
theorem cellsString : Tryd.prog.cellsOf 9 = 1 := by kernel_rfl
theorem cell_of_one {w : World} {a : Addr} {x : Value} (h : w.cells? 0 a 1 = some [x]) : w.cell? a = some x := by
  unfold World.cells? at h
  rw [if_pos (Nat.zero_le _)] at h
  have ha : a.add 0 = a := by cases a; simp [Addr.add]
  simp only [List.range_succ, List.range_zero, List.nil_append, List.mapM_cons, List.mapM_nil, ha, Option.bind_eq_bind, Option.pure_def, Option.bind_some, Option.bind_eq_some_iff, Option.some.injEq, List.cons.injEq, and_true] at h
  obtain ⟨c, hc, rfl⟩ := h
  exact hc
theorem spot_of {w : World} {a : Addr} {x : Value} (h : w.cell? a = some x) : a.spot = none ∧ a.block < w.heap.size := by
  unfold World.cell? at h
  split at h
  · rename_i c t fr hb
    constructor
    · split at h
      · cases h
      · rename_i hs
        cases hh : a.spot with
        | none => rfl
        | some _ => simp [hh] at hs
    · exact (Array.getElem?_eq_some_iff.1 hb).1
  · cases h
theorem cells_of_texts {H : Type} {enc : TypeId × Value → H} {P : Program} {w : World} {base : Nat} {sp : Nat → Bool} {held : Bool} {fuel : Nat} {t e : TypeId} {n : Nat} {cs : List Value} {zs : List (List UInt8)} {p : List MemPlace}
    (ht : P.underlying t = some (.array n e)) (he : P.underlying e = some .string) (hce : P.cellsOf e = 1) (hct : P.cellsOf t = n)
    (h : DataW.trod enc P w base sp held fuel t cs = some (.agg (zs.map fun z => .lit (.string z)), p)) : cs = zs.map fun z => Value.string ⟨z.toArray⟩ := by
  cases fuel with
  | zero => simp [DataW.trod] at h
  | succ fuel =>
    simp only [DataW.trod, ht, hce, hct, Nat.mul_one] at h
    split at h
    · rename_i hl
      obtain ⟨xs, hm, hx⟩ := Option.map_eq_some_iff.1 h
      have hxs : xs.map (·.1) = zs.map fun z => (DataW.lit (.string z) : DataW H) := by
        have := congrArg Prod.fst hx
        simpa using this
      have hxl : xs.length = n := by simpa using Lib.mapM_length hm
      have hzl : zs.length = n := by
        have := congrArg List.length hxs
        simp at this
        omega
      apply List.ext_getElem?
      intro i
      by_cases hi : i < n
      · obtain ⟨b, hb, hf⟩ := Lib.mapM_at hm i i (by simp [hi])
        obtain ⟨z, hc, rfl, _⟩ := DataW.trod_string he hf
        have h1 : cs[i]? = some (.string z) := by
          have := congrArg (·[0]?) hc
          simpa [List.getElem?_take, List.getElem?_drop] using this
        have h2 : (xs.map (·.1))[i]? = some (DataW.lit (.string z.data.toList) : DataW H) := by simp [hb]
        rw [hxs] at h2
        simp only [List.getElem?_map, Option.map_eq_some_iff, DataW.lit.injEq, Lit.string.injEq] at h2
        obtain ⟨z', hz', rfl⟩ := h2
        simp [h1, hz']
      · rw [List.getElem?_eq_none (by omega), List.getElem?_eq_none (by simp; omega)]
    · cases h
theorem names_of_laid {W : World} {l : List (String × DataW Unit)} (hl : l = [("fretwork/ring.names", Rows.laid_fretwork_ring_names)]) (h : laidMetH Tryd.prog l W) : NamesAt W := by
  subst hl
  have h' : laidMet Tryd.prog (("fretwork/ring.names", Rows.laid_fretwork_ring_names) :: []) W := h
  obtain ⟨ps, ⟨g', t', cs, fuel, p, q, hg', ht', hvar, hd, _, _⟩, _⟩ := h'
  obtain rfl := Option.some.inj (gNames.symm.trans hg')
  obtain rfl := Option.some.inj (gNamesType.symm.trans ht')
  have hc := cells_of_texts (zs := [[], [109, 105, 110, 112, 108, 117, 115], [111, 114, 97, 110, 100], [109, 105, 110, 102, 105, 114, 115, 116], [109, 105, 110, 115, 101, 99, 111, 110, 100], [112, 108, 117, 115, 116, 105, 109, 101, 115]]) Tryd.underlying54 Tryd.underlying9 cellsString cellsNames hd
  have hcell : ∀ i, W.cell? ⟨0, i, none⟩ = cs.toList[i]? := fun i => by simpa using World.var?_cell gNames hvar i
  rw [hc] at hcell
  have k0 := hcell 0
  have k1 := hcell 1
  have k2 := hcell 2
  have k3 := hcell 3
  have k4 := hcell 4
  have k5 := hcell 5
  simp at k0 k1 k2 k3 k4 k5
  exact ⟨(spot_of k0).2, k0, k1, k2, k3, k4, k5⟩
theorem cells_u64 : Tryd.prog.cellsOf 23 = 1 := by kernel_rfl
theorem cells_wide : Tryd.prog.cellsOf 25 = 2 := by kernel_rfl
theorem cells_wides : Tryd.prog.cellsOf 34 = 4 := by kernel_rfl
theorem cells_two : Tryd.prog.cellsOf 35 = 2 := by kernel_rfl
theorem cells_three : Tryd.prog.cellsOf 47 = 3 := by kernel_rfl
theorem calls_of_fs {f : FuncId} {args : List SV} (h : FS Tryd.prog f args (.bool true)) {w : World} (hN : NamesAt w) {vs : List Value} (hr : Reps w (fun _ => False) [] args vs) : Calls Tryd.prog f vs.toArray w fun e w' => e = .returned (.bool true) ∧ Below w.heap.size w w' := by
  refine (h.2 w (fun _ => False) vs hN.held hr.1 hr.2).mono ?_
  rintro e w' ⟨v, rfl, hb, hv⟩
  rw [rep_bool hv]
  exact ⟨rfl, hb⟩
theorem reps_nil {w : World} {A : Nat → Prop} {β : List (Option Nat)} : Reps w A β [] [] := ⟨rfl, fun i f v h => by simp at h⟩
theorem reps_cons {w : World} {A : Nat → Prop} {β : List (Option Nat)} {x : SV} {v : Value} {xs : List SV} {vs : List Value} (h : Rep w A β x v) (k : Reps w A β xs vs) : Reps w A β (x :: xs) (v :: vs) :=
  ⟨by simp [k.1], fun i f u hf hu => by
    cases i with
    | zero => simp at hf hu; subst hf hu; exact h
    | succ i => exact k.2 i f u (by simpa using hf) (by simpa using hu)⟩
theorem okWide_array {P : Program} {W : World} {base : Nat} {v : Value} {t : TypeId} {m : Nat} {e : TypeId} (ht : P.underlying t = some (.array m e)) (hv : Value.okWide P W .any base t v) : ∃ cs, v = .agg cs ∧ cs.size = P.cellsOf t := by
  unfold Value.okWide at hv
  rw [ht] at hv
  obtain ⟨cs, h1, h2, _⟩ := hv
  exact ⟨cs, h1, h2⟩
theorem opened_string {P : Program} {w : World} {n : Nat} {t : TypeId} {cs : List Value} (hu : P.underlying t = some .string) (h : Opened P w n t cs) : ∃ s : ByteArray, cs = [.string s] := by
  cases n with
  | zero => exact h.elim
  | succ n => unfold Opened at h; rw [hu] at h; obtain ⟨s, h1, _⟩ := h; exact ⟨s, h1⟩
section
variable {H : Type} {enc : TypeId × Value → H} {W : World} {base : Nat} {v : Value} {d : DataW H} {p : List MemPlace}
theorem arg_i64 (hv : Value.okWide Tryd.prog W .any base 2 v) (h : DataW.Trod enc Tryd.prog W 0 (fun _ => true) true 2 v d p) : ∃ n, Rep W (fun _ => False) [] (.int .i64 n) v ∧ I64 n := by
  obtain ⟨n, rfl⟩ := okWide_int Tryd.underlying2 hv
  obtain ⟨m, ho⟩ := opened_val h
  obtain ⟨x, hx, hw⟩ := opened_int Tryd.underlying2 ho
  simp [Value.cells] at hx
  subst hx
  exact ⟨n, .int _ _ _, i64_of_wf hw⟩
theorem arg_ring (hv : Value.okWide Tryd.prog W .any base 27 v) (h : DataW.Trod enc Tryd.prog W 0 (fun _ => true) true 27 v d p) : ∃ n, Rep W (fun _ => False) [] (.int .i64 n) v ∧ I64 n := by
  obtain ⟨n, rfl⟩ := okWide_int Tryd.underlying27 hv
  obtain ⟨m, ho⟩ := opened_val h
  obtain ⟨x, hx, hw⟩ := opened_int Tryd.underlying27 ho
  simp [Value.cells] at hx
  subst hx
  exact ⟨n, .int _ _ _, i64_of_wf hw⟩
theorem arg_text (hv : Value.okWide Tryd.prog W .any base 9 v) (h : DataW.Trod enc Tryd.prog W 0 (fun _ => true) true 9 v d p) : ∃ s, Rep W (fun _ => False) [] (.str s) v := by
  obtain ⟨m, ho⟩ := opened_val h
  obtain ⟨s, hs⟩ := opened_string Tryd.underlying9 ho
  have : v = .string s := by
    unfold Value.okWide at hv
    simp only [Tryd.underlying9] at hv
    cases v <;> simp_all [Value.cells, Cell.okWide, Cell.ok]
  subst this
  refine ⟨s.data.toList, ?_⟩
  have e : (⟨s.data.toList.toArray⟩ : ByteArray) = s := by cases s; simp
  have r : Rep W (fun _ => False) [] (.str s.data.toList) (.string ⟨s.data.toList.toArray⟩) := .str _ _
  rwa [e] at r
theorem arg_two (hv : Value.okWide Tryd.prog W .any base 35 v) (h : DataW.Trod enc Tryd.prog W 0 (fun _ => true) true 35 v d p) :
    ∃ a b, Rep W (fun _ => False) [] (.agg [.int .i64 a, .int .i64 b]) v ∧ I64 a ∧ I64 b := by
  obtain ⟨cs, rfl, _⟩ := okWide_array Tryd.underlying35 hv
  obtain ⟨m, ho⟩ := opened_val h
  obtain ⟨hl, k, hf⟩ := opened_array Tryd.underlying35 ho
  rw [cells_two] at hl
  generalize hc : (Value.agg cs).cells.toList = l at *
  match l, hl with
  | [c0, c1], _ =>
    have h0 := hf 0 (by omega)
    have h1 := hf 1 (by omega)
    rw [cells_i64] at h0 h1
    obtain ⟨a, ha, wa⟩ := opened_int Tryd.underlying2 h0
    obtain ⟨b, hb, wb⟩ := opened_int Tryd.underlying2 h1
    simp at ha hb
    subst ha hb
    refine ⟨a, b, ?_, i64_of_wf wa, i64_of_wf wb⟩
    rw [cells_agg hc]
    exact .agg _ _ _ rfl (reps_cons (.int _ _ _) (reps_cons (.int _ _ _) reps_nil)).2
theorem arg_three (hv : Value.okWide Tryd.prog W .any base 47 v) (h : DataW.Trod enc Tryd.prog W 0 (fun _ => true) true 47 v d p) :
    ∃ a b c, Rep W (fun _ => False) [] (.agg [.int .i64 a, .int .i64 b, .int .i64 c]) v ∧ I64 a ∧ I64 b ∧ I64 c := by
  obtain ⟨cs, rfl, _⟩ := okWide_array Tryd.underlying47 hv
  obtain ⟨m, ho⟩ := opened_val h
  obtain ⟨hl, k, hf⟩ := opened_array Tryd.underlying47 ho
  rw [cells_three] at hl
  generalize hc : (Value.agg cs).cells.toList = l at *
  match l, hl with
  | [c0, c1, c2], _ =>
    have h0 := hf 0 (by omega)
    have h1 := hf 1 (by omega)
    have h2 := hf 2 (by omega)
    rw [cells_i64] at h0 h1 h2
    obtain ⟨a, ha, wa⟩ := opened_int Tryd.underlying2 h0
    obtain ⟨b, hb, wb⟩ := opened_int Tryd.underlying2 h1
    obtain ⟨c, hc', wc⟩ := opened_int Tryd.underlying2 h2
    simp at ha hb hc'
    subst ha hb hc'
    refine ⟨a, b, c, ?_, i64_of_wf wa, i64_of_wf wb, i64_of_wf wc⟩
    rw [cells_agg hc]
    exact .agg _ _ _ rfl (reps_cons (.int _ _ _) (reps_cons (.int _ _ _) (reps_cons (.int _ _ _) reps_nil))).2
theorem opened_wide {W : World} {m : Nat} {xs : List Value} (ho : Opened Tryd.prog W m 25 xs) : ∃ x, W128 x ∧ xs = [.int .i64 (hi x), .int .u64 (lo x)] := by
  obtain ⟨hl, k, hf⟩ := opened_struct Tryd.underlying25 ho
  rw [cells_wide] at hl
  match xs, hl with
  | [c0, c1], _ =>
    simp [cells_i64, cells_u64] at hf
    obtain ⟨h0, h1⟩ := hf
    obtain ⟨a, ha, wa⟩ := opened_int Tryd.underlying2 h0
    obtain ⟨b, hb, wb⟩ := opened_int Tryd.underlying23 h1
    simp at ha hb
    subst ha hb
    obtain ⟨e1, e2, e3⟩ := halves_of a b (i64_of_wf wa) (u64_of_wf wb)
    exact ⟨a * 18446744073709551616 + b, e3, by rw [e1, e2]⟩
theorem arg_wides (hv : Value.okWide Tryd.prog W .any base 34 v) (h : DataW.Trod enc Tryd.prog W 0 (fun _ => true) true 34 v d p) :
    ∃ x y, Rep W (fun _ => False) [] (.agg [.int .i64 (hi x), .int .u64 (lo x), .int .i64 (hi y), .int .u64 (lo y)]) v ∧ W128 x ∧ W128 y := by
  obtain ⟨cs, rfl, _⟩ := okWide_array Tryd.underlying34 hv
  obtain ⟨m, ho⟩ := opened_val h
  obtain ⟨hl, k, hf⟩ := opened_array Tryd.underlying34 ho
  rw [cells_wides] at hl
  generalize hc : (Value.agg cs).cells.toList = l at *
  match l, hl with
  | [c0, c1, c2, c3], _ =>
    have h0 := hf 0 (by omega)
    have h1 := hf 1 (by omega)
    rw [cells_wide] at h0 h1
    obtain ⟨x, wx, hx⟩ := opened_wide h0
    obtain ⟨y, wy, hy⟩ := opened_wide h1
    simp at hx hy
    obtain ⟨rfl, rfl⟩ := hx
    obtain ⟨rfl, rfl⟩ := hy
    refine ⟨x, y, ?_, wx, wy⟩
    rw [cells_agg hc]
    exact .agg _ _ _ rfl (reps_cons (.int _ _ _) (reps_cons (.int _ _ _) (reps_cons (.int _ _ _) (reps_cons (.int _ _ _) reps_nil)))).2
end
/-- A world for the witness: the settled one, the table (block 0) holding what its initialiser lays. -/
noncomputable def laidWorld (os : Os) : World :=
  { World.holding Tryd.prog os ⟨#[], #[], []⟩ with heap := (World.holding Tryd.prog os ⟨#[], #[], []⟩).heap.modify 0 fun
      | .cells _ t frozen => .cells #[.string nm0, .string nm1, .string nm2, .string nm3, .string nm4, .string nm5] t frozen
      | o => o }
end Go.Proofs.YtnalgofemikggaaDoor
