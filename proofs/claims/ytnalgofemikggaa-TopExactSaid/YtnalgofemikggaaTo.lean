/- The arguments of TopExact, and its four cases. -/
import Derived.Test.YtnalgofemikggaaT1
import Derived.Test.YtnalgofemikggaaT2
import Derived.Test.YtnalgofemikggaaT3
import Derived.Test.YtnalgofemikggaaT4
import Derived.Test.YtnalgofemikggaaOp
namespace Go.Proofs.Ytnalgofemikggaa
open Go.ChangeShapes Go.WideShapes Go.ChangeAt Go.RowKit
theorem own : ownKnob Try.prog.godebug = none := by kernel_rfl
theorem laidOut : laidOutB Try.prog = true := by kernel_rfl
theorem cells_i64 : Try.prog.cellsOf 2 = 1 := by kernel_rfl
theorem cells_u8 : Try.prog.cellsOf 5 = 1 := by kernel_rfl
def U8 (x : Int) : Prop := 0 ≤ x ∧ x ≤ 255
theorem cell_of_one {w : World} {a : Addr} {x : Value} (h : w.cells? 0 a 1 = some [x]) : w.cell? a = some x := by
  unfold World.cells? at h
  rw [if_pos (Nat.zero_le _)] at h
  have ha : a.add 0 = a := by cases a; simp [Addr.add]
  simp only [List.range_succ, List.range_zero, List.nil_append, List.mapM_cons, List.mapM_nil, ha, Option.bind_eq_bind, Option.pure_def, Option.bind_some, Option.bind_eq_some_iff, Option.some.injEq, List.cons.injEq, and_true] at h
  obtain ⟨c, hc, rfl⟩ := h
  exact hc
theorem spot_of {w : World} {a : Addr} {x : Value} (h : w.cell? a = some x) : a.spot = none ∧ a.block < w.heap.size := by
  unfold World.cell? at h
  split at h
  · rename_i c t fr hb
    constructor
    · split at h
      · cases h
      · rename_i hs
        cases hh : a.spot with
        | none => rfl
        | some _ => simp [hh] at hs
    · exact (Array.getElem?_eq_some_iff.1 hb).1
  · cases h
theorem slice_of_ok {P : Program} {w : World} {base : Nat} {t e : TypeId} {v c : Value} (ht : P.underlying t = some (.slice e)) (hv : Value.okWide P w .any base t v) (hc : v.cells.toList = [c]) (hs : ∃ a n k, c = .slice a n k) : v = c := by
  obtain ⟨a, n, k, rfl⟩ := hs
  unfold Value.okWide at hv
  simp only [ht] at hv
  cases v <;> simp_all [Value.cells, Cell.okWide, Cell.ok]
section
variable {H : Type} {enc : TypeId × Value → H} {W : World} {base : Nat} {v : Value} {d : DataW H} {p : List MemPlace}
theorem arg_i64s (hv : Value.okWide Try.prog W .any base 40 v) (h : DataW.Trod enc Try.prog W 0 (fun _ => true) true 40 v d p) :
    ∃ q l cap, v = .slice q (List.length l) cap ∧ l.length ≤ cap ∧ cap ≤ maxLen ∧ Sl .i64 W q l ∧ (∀ i, i < l.length → I64 (l.getD i 0)) := by
  obtain ⟨m, ho⟩ := opened_val h
  rcases opened_slice Try.underlying40 ho with hc | ⟨a, len, cap, hc, h1, h2, k, hk⟩
  · have := slice_of_ok Try.underlying40 hv hc ⟨_, _, _, rfl⟩
    subst this
    exact ⟨none, [], 0, rfl, Nat.le_refl _, Nat.zero_le _, fun h => absurd rfl h, fun i hi => absurd hi (Nat.not_lt_zero _)⟩
  · have := slice_of_ok Try.underlying40 hv hc ⟨_, _, _, rfl⟩
    subst this
    have hx : ∀ i, ∃ x, i < len → W.cell? (a.add i) = some (.int .i64 x) ∧ I64 x := by
      intro i
      by_cases hi : i < len
      · obtain ⟨xs, hxs, hop⟩ := hk i (by omega)
        obtain ⟨x, rfl, hw⟩ := opened_int Try.underlying2 hop
        rw [cells_i64, Nat.mul_one] at hxs
        exact ⟨x, fun _ => ⟨cell_of_one hxs, i64_of_wf hw⟩⟩
      · exact ⟨0, fun h => absurd h hi⟩
    obtain ⟨f, hf⟩ : ∃ f : Nat → Int, ∀ i, i < len → W.cell? (a.add i) = some (.int .i64 (f i)) ∧ I64 (f i) :=
      ⟨fun i => Classical.choose (hx i), fun i => Classical.choose_spec (hx i)⟩
    refine ⟨some a, (List.range len).map f, cap, by simp, by simpa using h1, h2, ?_, ?_⟩
    · intro hne
      have hl : 0 < len := by
        rcases Nat.eq_zero_or_pos len with h0 | h0
        · subst h0; simp at hne
        · exact h0
      obtain ⟨hs, hb⟩ := spot_of (hf 0 hl).1
      obtain ⟨b, o, sp⟩ := a
      simp [Addr.add] at hs hb
      subst hs
      refine ⟨b, o, rfl, hb, fun i hi => ?_⟩
      have hi' : i < len := by simpa using hi
      have := (hf i hi').1
      have e : Addr.add ⟨b, o, none⟩ i = ⟨b, o + i, none⟩ := by unfold Addr.add; split <;> simp_all
      rw [e] at this
      simpa [List.getD_eq_getElem?_getD, hi'] using this
    · intro i hi
      have hi' : i < len := by simpa using hi
      have := (hf i hi').2
      simpa [List.getD_eq_getElem?_getD, hi'] using this
end
section
variable {H : Type} {enc : TypeId × Value → H} {W : World} {base : Nat} {v : Value} {d : DataW H} {p : List MemPlace}
theorem arg_u8s (hv : Value.okWide Try.prog W .any base 41 v) (h : DataW.Trod enc Try.prog W 0 (fun _ => true) true 41 v d p) :
    ∃ q l cap, v = .slice q (List.length l) cap ∧ l.length ≤ cap ∧ cap ≤ maxLen ∧ Sl .u8 W q l ∧ (∀ i, i < l.length → U8 (l.getD i 0)) := by
  obtain ⟨m, ho⟩ := opened_val h
  rcases opened_slice Try.underlying41 ho with hc | ⟨a, len, cap, hc, h1, h2, k, hk⟩
  · have := slice_of_ok Try.underlying41 hv hc ⟨_, _, _, rfl⟩
    subst this
    exact ⟨none, [], 0, rfl, Nat.le_refl _, Nat.zero_le _, fun h => absurd rfl h, fun i hi => absurd hi (Nat.not_lt_zero _)⟩
  · have := slice_of_ok Try.underlying41 hv hc ⟨_, _, _, rfl⟩
    subst this
    have hx : ∀ i, ∃ x, i < len → W.cell? (a.add i) = some (.int .u8 x) ∧ U8 x := by
      intro i
      by_cases hi : i < len
      · obtain ⟨xs, hxs, hop⟩ := hk i (by omega)
        obtain ⟨x, rfl, hw⟩ := opened_int Try.underlying5 hop
        rw [cells_u8, Nat.mul_one] at hxs
        exact ⟨x, fun _ => ⟨cell_of_one hxs, u8_of_wf hw⟩⟩
      · exact ⟨0, fun h => absurd h hi⟩
    obtain ⟨f, hf⟩ : ∃ f : Nat → Int, ∀ i, i < len → W.cell? (a.add i) = some (.int .u8 (f i)) ∧ U8 (f i) :=
      ⟨fun i => Classical.choose (hx i), fun i => Classical.choose_spec (hx i)⟩
    refine ⟨some a, (List.range len).map f, cap, by simp, by simpa using h1, h2, ?_, ?_⟩
    · intro hne
      have hl : 0 < len := by
        rcases Nat.eq_zero_or_pos len with h0 | h0
        · subst h0; simp at hne
        · exact h0
      obtain ⟨hs, hb⟩ := spot_of (hf 0 hl).1
      obtain ⟨b, o, sp⟩ := a
      simp [Addr.add] at hs hb
      subst hs
      refine ⟨b, o, rfl, hb, fun i hi => ?_⟩
      have hi' : i < len := by simpa using hi
      have := (hf i hi').1
      have e : Addr.add ⟨b, o, none⟩ i = ⟨b, o + i, none⟩ := by unfold Addr.add; split <;> simp_all
      rw [e] at this
      simpa [List.getD_eq_getElem?_getD, hi'] using this
    · intro i hi
      have hi' : i < len := by simpa using hi
      have := (hf i hi').2
      simpa [List.getD_eq_getElem?_getD, hi'] using this
end
theorem topExact (a x at_ : List Int) (pa px pat : Option Addr) (ka kx kat : Nat) (w : World) (ha : a.length ≤ ka) (hka : ka ≤ maxLen) (hx : x.length ≤ kx) (hkx : kx ≤ maxLen)
    (hat : at_.length ≤ kat) (hkat : kat ≤ maxLen) (ca : Sl .i64 w pa a) (cx : Sl .i64 w px x) (cat : Sl .u8 w pat at_)
    (wa : ∀ i, i < a.length → I64 (a.getD i 0)) (wx : ∀ i, i < x.length → I64 (x.getD i 0)) (wat : ∀ i, i < at_.length → U8 (at_.getD i 0)) :
    Calls Try.prog 10 #[.slice pa a.length ka, .slice px x.length kx, .slice pat at_.length kat] w fun e w' => e = .returned (.bool true) ∧ Ext w w' := by
  by_cases hc : x.length < a.length
  · by_cases hn : 60 < x.length
    · exact topExact_4 a x at_ pa px pat ka kx kat w ha hka hx hkx hat hkat ca cx cat wa wx wat hc hn
    · exact topExact_2 a x at_ pa px pat ka kx kat w ha hka hx hkx hat hkat ca cx cat wa wx wat hc hn
  · by_cases hn : 60 < a.length
    · exact topExact_3 a x at_ pa px pat ka kx kat w ha hka hx hkx hat hkat ca cx cat wa wx wat hc hn
    · exact topExact_1 a x at_ pa px pat ka kx kat w ha hka hx hkx hat hkat ca cx cat wa wx wat hc hn
end Go.Proofs.Ytnalgofemikggaa
