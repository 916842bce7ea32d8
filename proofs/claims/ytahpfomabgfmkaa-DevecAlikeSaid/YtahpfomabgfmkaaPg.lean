/-
  The laws on dense vectors: each returns true at every input that can be read, and writes nothing that was there.
-/
import Derived.Test.YtahpfomabgfmkaaKK
namespace Go.Proofs.Ytahpfomabgfmkaa
open Go.ChangeShapes Go.WideShapes Go.ChangeAt Go.RowKit
set_option maxRecDepth 100000
theorem own : ownKnob Try.prog.godebug = none := by kernel_rfl
theorem laidOut : laidOutB Try.prog = true := by kernel_rfl
theorem cells_u64 : Try.prog.cellsOf 93 = 1 := by kernel_rfl
theorem cells_int : Try.prog.cellsOf 3 = 1 := by kernel_rfl
theorem cells_i64 : Try.prog.cellsOf 2 = 1 := by kernel_rfl
theorem cells_items : Try.prog.cellsOf 26 = 1 := by kernel_rfl
theorem cells_item : Try.prog.cellsOf 39 = 2 := by kernel_rfl
theorem cells_vec : Try.prog.cellsOf 28 = 2 := by kernel_rfl
theorem cells_words : Try.prog.cellsOf 22 = 1 := by kernel_rfl
theorem calls_of_fs {P : Program} {f : FuncId} {args : List SV} (h : FS P f args (.bool true)) {w : World} {vs : List Value} (hr : Reps w nob [] args vs) : Calls P f vs.toArray w fun e w' => e = .returned (.bool true) ∧ Below w.heap.size w w' := by
  refine (h.2 w nob vs (fun _ h => h.elim) hr.1 hr.2).mono ?_
  rintro e w' ⟨v, rfl, hb, hv⟩
  rw [rep_bool hv]
  exact ⟨rfl, hb⟩
theorem reps_nil {w : World} {A : Nat → Prop} {β : List (Option Nat)} : Reps w A β [] [] := ⟨rfl, fun i f v h => by simp at h⟩
theorem reps_cons {w : World} {A : Nat → Prop} {β : List (Option Nat)} {x : SV} {v : Value} {xs : List SV} {vs : List Value} (h : Rep w A β x v) (k : Reps w A β xs vs) : Reps w A β (x :: xs) (v :: vs) :=
  ⟨by simp [k.1], fun i f u hf hu => by
    cases i with
    | zero => simp at hf hu; subst hf hu; exact h
    | succ i => exact k.2 i f u (by simpa using hf) (by simpa using hu)⟩
theorem opened_item {W : World} {m : Nat} {xs : List Value} (ho : Opened Try.prog W m 39 xs) :
    ∃ x : Int × Int, (I64 x.1 ∧ I64 x.2) ∧ [SV.int .i64 x.1, SV.int .i64 x.2].length = 2 ∧ Reps W nob [] [.int .i64 x.1, .int .i64 x.2] xs := by
  obtain ⟨hl, k, hf⟩ := opened_struct Try.underlying39 ho
  rw [cells_item] at hl
  match xs, hl with
  | [c0, c1], _ =>
    simp [cells_int, cells_i64] at hf
    obtain ⟨h0, h1⟩ := hf
    obtain ⟨a, ha, wa⟩ := opened_int Try.underlying3 h0
    obtain ⟨b, hb, wb⟩ := opened_int Try.underlying2 h1
    simp at ha hb
    subst ha hb
    exact ⟨(a, b), ⟨i64_of_wf wa, i64_of_wf wb⟩, rfl, reps_cons (.int _ _ _) (reps_cons (.int _ _ _) reps_nil)⟩
theorem opened_items {W : World} {m : Nat} {xs : List Value} (ho : Opened Try.prog W m 26 xs) : ∃ l v, xs = [v] ∧ Rep W nob [] (IL l) v ∧ Ib l ∧ ∃ a n k, v = .slice a n k := by
  obtain ⟨l, v, h1, h2, h3, _, h5⟩ := rep_slice1 (fun x : Int × Int => [SV.int .i64 x.1, SV.int .i64 x.2]) (fun x => I64 x.1 ∧ I64 x.2) (by omega) cells_item Try.underlying26 ho fun m xs hop => opened_item hop
  exact ⟨l, v, h1, h5, h3, h2⟩
theorem opened_words {W : World} {m : Nat} {xs : List Value} (ho : Opened Try.prog W m 22 xs) : ∃ l v, xs = [v] ∧ Rep W nob [] (U l) v ∧ Wd l ∧ ∃ a n k, v = .slice a n k := by
  obtain ⟨l, v, h1, h2, h3, _, h5⟩ := rep_slice1 (fun (x : Nat) => [SV.int .u64 (x : Int)]) (fun x => x < 18446744073709551616) (by omega) cells_u64 Try.underlying22 ho fun m xs hop => by
    obtain ⟨x, rfl, hw⟩ := opened_int Try.underlying93 hop
    have := u64_of_wf hw
    obtain ⟨k, rfl⟩ := Int.eq_ofNat_of_zero_le this.1
    exact ⟨k, by omega, rfl, reps_cons (.int _ _ _) reps_nil⟩
  exact ⟨l, v, h1, h5, h3, h2⟩
section
variable {H : Type} {enc : TypeId × Value → H} {W : World} {base : Nat} {v : Value} {d : DataW H} {p : List MemPlace}
theorem val_slice {t e : TypeId} (ht : Try.prog.underlying t = some (.slice e)) (hv : Value.okWide Try.prog W .any base t v) {x : Value} (hx : v.cells.toList = [x]) (hs : ∃ a n k, x = .slice a n k) : v = x := by
  obtain ⟨a, n, k, rfl⟩ := hs
  unfold Value.okWide at hv
  simp only [ht] at hv
  cases v <;> simp_all [Value.cells, Cell.okWide, Cell.ok]
theorem arg_u8 (hv : Value.okWide Try.prog W .any base 5 v) (h : DataW.Trod enc Try.prog W 0 (fun _ => true) true 5 v d p) : ∃ n : Nat, Rep W nob [] (.int .u8 (n : Int)) v ∧ n < 256 := by
  obtain ⟨n, rfl⟩ := okWide_int Try.underlying5 hv
  obtain ⟨m, ho⟩ := opened_val h
  obtain ⟨x, hx, hw⟩ := opened_int Try.underlying5 ho
  simp [Value.cells] at hx
  subst hx
  have := u8_of_wf hw
  obtain ⟨k, rfl⟩ := Int.eq_ofNat_of_zero_le this.1
  exact ⟨k, .int _ _ _, by omega⟩
theorem arg_words (hv : Value.okWide Try.prog W .any base 22 v) (h : DataW.Trod enc Try.prog W 0 (fun _ => true) true 22 v d p) : ∃ ws, Rep W nob [] (U ws) v ∧ Wd ws := by
  obtain ⟨m, ho⟩ := opened_val h
  obtain ⟨l, x, h1, h2, h3, h4⟩ := opened_words ho
  obtain rfl := val_slice Try.underlying22 hv h1 h4
  exact ⟨l, h2, h3⟩
theorem arg_items (hv : Value.okWide Try.prog W .any base 26 v) (h : DataW.Trod enc Try.prog W 0 (fun _ => true) true 26 v d p) : ∃ l, Rep W nob [] (IL l) v ∧ Ib l := by
  obtain ⟨m, ho⟩ := opened_val h
  obtain ⟨l, x, h1, h2, h3, h4⟩ := opened_items ho
  obtain rfl := val_slice Try.underlying26 hv h1 h4
  exact ⟨l, h2, h3⟩
theorem arg_vec (hv : Value.okWide Try.prog W .any base 28 v) (h : DataW.Trod enc Try.prog W 0 (fun _ => true) true 28 v d p) : ∃ n l, Rep W nob [] (VC n l) v ∧ I64 n ∧ Ib l := by
  obtain ⟨cs, rfl, _⟩ := okWide_struct Try.underlying28 hv
  obtain ⟨m, ho⟩ := opened_val h
  obtain ⟨hl, k, hf⟩ := opened_struct Try.underlying28 ho
  rw [cells_vec] at hl
  generalize hc : (Value.agg cs).cells.toList = l at *
  match l, hl with
  | [c0, c1], _ =>
    simp [cells_int, cells_items] at hf
    obtain ⟨h0, h1⟩ := hf
    obtain ⟨a, ha, wa⟩ := opened_int Try.underlying3 h0
    obtain ⟨l, x, hx, h2, h3, _⟩ := opened_items h1
    simp at ha hx
    subst ha hx
    refine ⟨a, l, ?_, i64_of_wf wa, h3⟩
    rw [cells_agg hc]
    exact .agg _ _ _ rfl (reps_cons (.int _ _ _) (reps_cons h2 reps_nil)).2
end
section
variable {H : Type} {enc : TypeId × Value → H} {W : World} {base : Nat} {v : Value} {d : DataW H} {p : List MemPlace}
theorem okWide_array {t : TypeId} {m : Nat} {e : TypeId} (ht : Try.prog.underlying t = some (.array m e)) (hv : Value.okWide Try.prog W .any base t v) : ∃ cs, v = .agg cs ∧ cs.size = Try.prog.cellsOf t := by
  unfold Value.okWide at hv
  rw [ht] at hv
  obtain ⟨cs, h1, h2, _⟩ := hv
  exact ⟨cs, h1, h2⟩
theorem cells_ints3 : Try.prog.cellsOf 61 = 3 := by kernel_rfl
theorem arg_ints3 (hv : Value.okWide Try.prog W .any base 61 v) (h : DataW.Trod enc Try.prog W 0 (fun _ => true) true 61 v d p) :
    ∃ a b c, Rep W nob [] (.agg [.int .i64 a, .int .i64 b, .int .i64 c]) v ∧ I64 a ∧ I64 b ∧ I64 c := by
  obtain ⟨cs, rfl, _⟩ := okWide_array Try.underlying61 hv
  obtain ⟨m, ho⟩ := opened_val h
  obtain ⟨hl, k, hf⟩ := opened_array Try.underlying61 ho
  rw [cells_ints3] at hl
  generalize hc : (Value.agg cs).cells.toList = l at *
  match l, hl with
  | [c0, c1, c2], _ =>
    have h0 := hf 0 (by omega)
    have h1 := hf 1 (by omega)
    have h2 := hf 2 (by omega)
    rw [cells_int] at h0 h1 h2
    obtain ⟨a, ha, wa⟩ := opened_int Try.underlying3 h0
    obtain ⟨b, hb, wb⟩ := opened_int Try.underlying3 h1
    obtain ⟨c, hc', wc⟩ := opened_int Try.underlying3 h2
    simp at ha hb hc'
    subst ha hb hc'
    refine ⟨a, b, c, ?_, i64_of_wf wa, i64_of_wf wb, i64_of_wf wc⟩
    rw [cells_agg hc]
    exact .agg _ _ _ rfl (reps_cons (.int _ _ _) (reps_cons (.int _ _ _) (reps_cons (.int _ _ _) reps_nil))).2
end
end Go.Proofs.Ytahpfomabgfmkaa
