/-
  The laws on sparse vectors: each returns true at every input that can be read, and writes nothing that was there.
-/
import Derived.Test.YtahpfomabgfmkaaC3
namespace Go.Proofs.Ytahpfomabgfmkaa
open Go.ChangeShapes Go.WideShapes Go.ChangeAt Go.RowKit
set_option maxRecDepth 100000
theorem own : ownKnob Try.prog.godebug = none := by kernel_rfl
theorem laidOut : laidOutB Try.prog = true := by kernel_rfl
theorem cells_int : Try.prog.cellsOf 3 = 1 := by kernel_rfl
theorem cells_i64 : Try.prog.cellsOf 2 = 1 := by kernel_rfl
theorem cells_items : Try.prog.cellsOf 26 = 1 := by kernel_rfl
theorem cells_item : Try.prog.cellsOf 39 = 2 := by kernel_rfl
theorem cells_vec : Try.prog.cellsOf 28 = 2 := by kernel_rfl
theorem calls_of_fs {P : Program} {f : FuncId} {args : List SV} (h : FS P f args (.bool true)) {w : World} {vs : List Value} (hr : Reps w nob [] args vs) : Calls P f vs.toArray w fun e w' => e = .returned (.bool true) ∧ Below w.heap.size w w' := by
  refine (h.2 w nob vs (fun _ h => h.elim) hr.1 hr.2).mono ?_
  rintro e w' ⟨v, rfl, hb, hv⟩
  rw [rep_bool hv]
  exact ⟨rfl, hb⟩
theorem reps_nil {w : World} {A : Nat → Prop} {β : List (Option Nat)} : Reps w A β [] [] := ⟨rfl, fun i f v h => by simp at h⟩
theorem reps_cons {w : World} {A : Nat → Prop} {β : List (Option Nat)} {x : SV} {v : Value} {xs : List SV} {vs : List Value} (h : Rep w A β x v) (k : Reps w A β xs vs) : Reps w A β (x :: xs) (v :: vs) :=
  ⟨by simp [k.1], fun i f u hf hu => by
    cases i with
    | zero => simp at hf hu; subst hf hu; exact h
    | succ i => exact k.2 i f u (by simpa using hf) (by simpa using hu)⟩
theorem opened_item {W : World} {m : Nat} {xs : List Value} (ho : Opened Try.prog W m 39 xs) :
    ∃ x : Int × Int, (I64 x.1 ∧ I64 x.2) ∧ [SV.int .i64 x.1, SV.int .i64 x.2].length = 2 ∧ Reps W nob [] [.int .i64 x.1, .int .i64 x.2] xs := by
  obtain ⟨hl, k, hf⟩ := opened_struct Try.underlying39 ho
  rw [cells_item] at hl
  match xs, hl with
  | [c0, c1], _ =>
    simp [cells_int, cells_i64] at hf
    obtain ⟨h0, h1⟩ := hf
    obtain ⟨a, ha, wa⟩ := opened_int Try.underlying3 h0
    obtain ⟨b, hb, wb⟩ := opened_int Try.underlying2 h1
    simp at ha hb
    subst ha hb
    exact ⟨(a, b), ⟨i64_of_wf wa, i64_of_wf wb⟩, rfl, reps_cons (.int _ _ _) (reps_cons (.int _ _ _) reps_nil)⟩
theorem opened_items {W : World} {m : Nat} {xs : List Value} (ho : Opened Try.prog W m 26 xs) : ∃ l v, xs = [v] ∧ Rep W nob [] (IL l) v ∧ Ib l ∧ ∃ a n k, v = .slice a n k := by
  obtain ⟨l, v, h1, h2, h3, _, h5⟩ := rep_slice1 (fun x : Int × Int => [SV.int .i64 x.1, SV.int .i64 x.2]) (fun x => I64 x.1 ∧ I64 x.2) (by omega) cells_item Try.underlying26 ho fun m xs hop => opened_item hop
  exact ⟨l, v, h1, h5, h3, h2⟩
section
variable {H : Type} {enc : TypeId × Value → H} {W : World} {base : Nat} {v : Value} {d : DataW H} {p : List MemPlace}
theorem val_slice {t e : TypeId} (ht : Try.prog.underlying t = some (.slice e)) (hv : Value.okWide Try.prog W .any base t v) {x : Value} (hx : v.cells.toList = [x]) (hs : ∃ a n k, x = .slice a n k) : v = x := by
  obtain ⟨a, n, k, rfl⟩ := hs
  unfold Value.okWide at hv
  simp only [ht] at hv
  cases v <;> simp_all [Value.cells, Cell.okWide, Cell.ok]
theorem arg_i64 (hv : Value.okWide Try.prog W .any base 2 v) (h : DataW.Trod enc Try.prog W 0 (fun _ => true) true 2 v d p) : ∃ n, Rep W nob [] (.int .i64 n) v ∧ I64 n := by
  obtain ⟨n, rfl⟩ := okWide_int Try.underlying2 hv
  obtain ⟨m, ho⟩ := opened_val h
  obtain ⟨x, hx, hw⟩ := opened_int Try.underlying2 ho
  simp [Value.cells] at hx
  subst hx
  exact ⟨n, .int _ _ _, i64_of_wf hw⟩
theorem arg_ring (hv : Value.okWide Try.prog W .any base 65 v) (h : DataW.Trod enc Try.prog W 0 (fun _ => true) true 65 v d p) : ∃ n, Rep W nob [] (.int .i64 n) v ∧ I64 n := by
  obtain ⟨n, rfl⟩ := okWide_int Try.underlying65 hv
  obtain ⟨m, ho⟩ := opened_val h
  obtain ⟨x, hx, hw⟩ := opened_int Try.underlying65 ho
  simp [Value.cells] at hx
  subst hx
  exact ⟨n, .int _ _ _, i64_of_wf hw⟩
theorem arg_u8 (hv : Value.okWide Try.prog W .any base 5 v) (h : DataW.Trod enc Try.prog W 0 (fun _ => true) true 5 v d p) : ∃ n : Nat, Rep W nob [] (.int .u8 (n : Int)) v ∧ n < 256 := by
  obtain ⟨n, rfl⟩ := okWide_int Try.underlying5 hv
  obtain ⟨m, ho⟩ := opened_val h
  obtain ⟨x, hx, hw⟩ := opened_int Try.underlying5 ho
  simp [Value.cells] at hx
  subst hx
  have := u8_of_wf hw
  obtain ⟨k, rfl⟩ := Int.eq_ofNat_of_zero_le this.1
  exact ⟨k, .int _ _ _, by omega⟩
theorem arg_items (hv : Value.okWide Try.prog W .any base 26 v) (h : DataW.Trod enc Try.prog W 0 (fun _ => true) true 26 v d p) : ∃ l, Rep W nob [] (IL l) v ∧ Ib l := by
  obtain ⟨m, ho⟩ := opened_val h
  obtain ⟨l, x, h1, h2, h3, h4⟩ := opened_items ho
  obtain rfl := val_slice Try.underlying26 hv h1 h4
  exact ⟨l, h2, h3⟩
theorem arg_vec (hv : Value.okWide Try.prog W .any base 28 v) (h : DataW.Trod enc Try.prog W 0 (fun _ => true) true 28 v d p) : ∃ n l, Rep W nob [] (VC n l) v ∧ I64 n ∧ Ib l := by
  obtain ⟨cs, rfl, _⟩ := okWide_struct Try.underlying28 hv
  obtain ⟨m, ho⟩ := opened_val h
  obtain ⟨hl, k, hf⟩ := opened_struct Try.underlying28 ho
  rw [cells_vec] at hl
  generalize hc : (Value.agg cs).cells.toList = l at *
  match l, hl with
  | [c0, c1], _ =>
    simp [cells_int, cells_items] at hf
    obtain ⟨h0, h1⟩ := hf
    obtain ⟨a, ha, wa⟩ := opened_int Try.underlying3 h0
    obtain ⟨l, x, hx, h2, h3, _⟩ := opened_items h1
    simp at ha hx
    subst ha hx
    refine ⟨a, l, ?_, i64_of_wf wa, h3⟩
    rw [cells_agg hc]
    exact .agg _ _ _ rfl (reps_cons (.int _ _ _) (reps_cons h2 reps_nil)).2
theorem okWide_array {t : TypeId} {m : Nat} {e : TypeId} (ht : Try.prog.underlying t = some (.array m e)) (hv : Value.okWide Try.prog W .any base t v) : ∃ cs, v = .agg cs ∧ cs.size = Try.prog.cellsOf t := by
  unfold Value.okWide at hv
  rw [ht] at hv
  obtain ⟨cs, h1, h2, _⟩ := hv
  exact ⟨cs, h1, h2⟩
end
section
variable {H : Type} {enc : TypeId × Value → H} {W : World} {base : Nat} {v : Value} {d : DataW H} {p : List MemPlace}
theorem cells_u8 : Try.prog.cellsOf 5 = 1 := by kernel_rfl
theorem cells_u82 : Try.prog.cellsOf 53 = 2 := by kernel_rfl
theorem cells_ints2 : Try.prog.cellsOf 68 = 2 := by kernel_rfl
theorem arg_int (hv : Value.okWide Try.prog W .any base 3 v) (h : DataW.Trod enc Try.prog W 0 (fun _ => true) true 3 v d p) : ∃ n, Rep W nob [] (.int .i64 n) v ∧ I64 n := by
  obtain ⟨n, rfl⟩ := okWide_int Try.underlying3 hv
  obtain ⟨m, ho⟩ := opened_val h
  obtain ⟨x, hx, hw⟩ := opened_int Try.underlying3 ho
  simp [Value.cells] at hx
  subst hx
  exact ⟨n, .int _ _ _, i64_of_wf hw⟩
theorem arg_u82 (hv : Value.okWide Try.prog W .any base 53 v) (h : DataW.Trod enc Try.prog W 0 (fun _ => true) true 53 v d p) :
    ∃ a b, Rep W nob [] (.agg [.int .u8 a, .int .u8 b]) v ∧ (0 ≤ a ∧ a ≤ 255) ∧ (0 ≤ b ∧ b ≤ 255) := by
  obtain ⟨cs, rfl, _⟩ := okWide_array Try.underlying53 hv
  obtain ⟨m, ho⟩ := opened_val h
  obtain ⟨hl, k, hf⟩ := opened_array Try.underlying53 ho
  rw [cells_u82] at hl
  generalize hc : (Value.agg cs).cells.toList = l at *
  match l, hl with
  | [c0, c1], _ =>
    have h0 := hf 0 (by omega)
    have h1 := hf 1 (by omega)
    rw [cells_u8] at h0 h1
    obtain ⟨a, ha, wa⟩ := opened_int Try.underlying5 h0
    obtain ⟨b, hb, wb⟩ := opened_int Try.underlying5 h1
    simp at ha hb
    subst ha hb
    refine ⟨a, b, ?_, u8_of_wf wa, u8_of_wf wb⟩
    rw [cells_agg hc]
    exact .agg _ _ _ rfl (reps_cons (.int _ _ _) (reps_cons (.int _ _ _) reps_nil)).2
theorem arg_ints2 (hv : Value.okWide Try.prog W .any base 68 v) (h : DataW.Trod enc Try.prog W 0 (fun _ => true) true 68 v d p) :
    ∃ a b, Rep W nob [] (.agg [.int .i64 a, .int .i64 b]) v ∧ I64 a ∧ I64 b := by
  obtain ⟨cs, rfl, _⟩ := okWide_array Try.underlying68 hv
  obtain ⟨m, ho⟩ := opened_val h
  obtain ⟨hl, k, hf⟩ := opened_array Try.underlying68 ho
  rw [cells_ints2] at hl
  generalize hc : (Value.agg cs).cells.toList = l at *
  match l, hl with
  | [c0, c1], _ =>
    have h0 := hf 0 (by omega)
    have h1 := hf 1 (by omega)
    rw [cells_int] at h0 h1
    obtain ⟨a, ha, wa⟩ := opened_int Try.underlying3 h0
    obtain ⟨b, hb, wb⟩ := opened_int Try.underlying3 h1
    simp at ha hb
    subst ha hb
    refine ⟨a, b, ?_, i64_of_wf wa, i64_of_wf wb⟩
    rw [cells_agg hc]
    exact .agg _ _ _ rfl (reps_cons (.int _ _ _) (reps_cons (.int _ _ _) reps_nil)).2
theorem arg_item (hv : Value.okWide Try.prog W .any base 39 v) (h : DataW.Trod enc Try.prog W 0 (fun _ => true) true 39 v d p) : ∃ a b, Rep W nob [] (.agg [.int .i64 a, .int .i64 b]) v ∧ I64 a ∧ I64 b := by
  obtain ⟨cs, rfl, _⟩ := okWide_struct Try.underlying39 hv
  obtain ⟨m, ho⟩ := opened_val h
  obtain ⟨x, hx, _, rx⟩ := opened_item ho
  generalize hc : (Value.agg cs).cells.toList = l at *
  refine ⟨x.1, x.2, ?_, hx.1, hx.2⟩
  rw [cells_agg hc]
  exact .agg _ _ _ rx.1 rx.2
theorem opened_vec {W : World} {m : Nat} {xs : List Value} (ho : Opened Try.prog W m 28 xs) :
    ∃ x : Vc, True ∧ [SV.int .i64 x.1, IL x.2].length = 2 ∧ Reps W nob [] [.int .i64 x.1, IL x.2] xs := by
  obtain ⟨hl, k, hf⟩ := opened_struct Try.underlying28 ho
  rw [cells_vec] at hl
  match xs, hl with
  | [c0, c1], _ =>
    simp [cells_int, cells_items] at hf
    obtain ⟨h0, h1⟩ := hf
    obtain ⟨a, ha, wa⟩ := opened_int Try.underlying3 h0
    obtain ⟨l, x, hx, h2, h3, _⟩ := opened_items h1
    simp at ha hx
    subst ha hx
    exact ⟨(a, l), trivial, rfl, reps_cons (.int _ _ _) (reps_cons h2 reps_nil)⟩
theorem arg_vecs (hv : Value.okWide Try.prog W .any base 74 v) (h : DataW.Trod enc Try.prog W 0 (fun _ => true) true 74 v d p) : ∃ l, Rep W nob [] (VL l) v := by
  obtain ⟨m, ho⟩ := opened_val h
  obtain ⟨l, x, h1, h2, _, _, h5⟩ := rep_slice1 (fun x : Vc => [SV.int .i64 x.1, IL x.2]) (fun _ => True) (by omega) cells_vec Try.underlying74 ho fun m xs hop => opened_vec hop
  obtain rfl := val_slice Try.underlying74 hv h1 h2
  exact ⟨l, h5⟩
end
end Go.Proofs.Ytahpfomabgfmkaa
