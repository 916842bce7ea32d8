/-
  The laws on pulled sums: each returns true at every input that can be read, and writes nothing that was there.
-/
import Derived.Test.YtlbmjnammgffiaaE5
namespace Go.Proofs.Ytlbmjnammgffiaa
open Go.ChangeShapes Go.WideShapes Go.ChangeAt Go.RowKit
set_option maxRecDepth 100000
theorem own : ownKnob Try.prog.godebug = none := by kernel_rfl
theorem laidOut : laidOutB Try.prog = true := by kernel_rfl
theorem cells_u64 : Try.prog.cellsOf 58 = 1 := by kernel_rfl
theorem cells_int : Try.prog.cellsOf 3 = 1 := by kernel_rfl
theorem cells_i64 : Try.prog.cellsOf 2 = 1 := by kernel_rfl
theorem cells_items : Try.prog.cellsOf 39 = 1 := by kernel_rfl
theorem cells_item : Try.prog.cellsOf 70 = 2 := by kernel_rfl
theorem cells_words : Try.prog.cellsOf 27 = 1 := by kernel_rfl
theorem calls_of_fs {P : Program} {f : FuncId} {args : List SV} (h : FS P f args (.bool true)) {w : World} {vs : List Value} (hr : Reps w nob [] args vs) : Calls P f vs.toArray w fun e w' => e = .returned (.bool true) ∧ Below w.heap.size w w' := by
  refine (h.2 w nob vs (fun _ h => h.elim) hr.1 hr.2).mono ?_
  rintro e w' ⟨v, rfl, hb, hv⟩
  rw [rep_bool hv]
  exact ⟨rfl, hb⟩
theorem reps_nil {w : World} {A : Nat → Prop} {β : List (Option Nat)} : Reps w A β [] [] := ⟨rfl, fun i f v h => by simp at h⟩
theorem reps_cons {w : World} {A : Nat → Prop} {β : List (Option Nat)} {x : SV} {v : Value} {xs : List SV} {vs : List Value} (h : Rep w A β x v) (k : Reps w A β xs vs) : Reps w A β (x :: xs) (v :: vs) :=
  ⟨by simp [k.1], fun i f u hf hu => by
    cases i with
    | zero => simp at hf hu; subst hf hu; exact h
    | succ i => exact k.2 i f u (by simpa using hf) (by simpa using hu)⟩
theorem opened_item {W : World} {m : Nat} {xs : List Value} (ho : Opened Try.prog W m 70 xs) :
    ∃ x : Int × Int, (I64 x.1 ∧ I64 x.2) ∧ [SV.int .i64 x.1, SV.int .i64 x.2].length = 2 ∧ Reps W nob [] [.int .i64 x.1, .int .i64 x.2] xs := by
  obtain ⟨hl, k, hf⟩ := opened_struct Try.underlying70 ho
  rw [cells_item] at hl
  match xs, hl with
  | [c0, c1], _ =>
    simp [cells_int, cells_i64] at hf
    obtain ⟨h0, h1⟩ := hf
    obtain ⟨a, ha, wa⟩ := opened_int Try.underlying3 h0
    obtain ⟨b, hb, wb⟩ := opened_int Try.underlying2 h1
    simp at ha hb
    subst ha hb
    exact ⟨(a, b), ⟨i64_of_wf wa, i64_of_wf wb⟩, rfl, reps_cons (.int _ _ _) (reps_cons (.int _ _ _) reps_nil)⟩
theorem opened_items {W : World} {m : Nat} {xs : List Value} (ho : Opened Try.prog W m 39 xs) : ∃ l v, xs = [v] ∧ Rep W nob [] (IL l) v ∧ Ib l ∧ ∃ a n k, v = .slice a n k := by
  obtain ⟨l, v, h1, h2, h3, _, h5⟩ := rep_slice1 (fun x : Int × Int => [SV.int .i64 x.1, SV.int .i64 x.2]) (fun x => I64 x.1 ∧ I64 x.2) (by omega) cells_item Try.underlying39 ho fun m xs hop => opened_item hop
  exact ⟨l, v, h1, h5, h3, h2⟩
theorem opened_words {W : World} {m : Nat} {xs : List Value} (ho : Opened Try.prog W m 27 xs) : ∃ l v, xs = [v] ∧ Rep W nob [] (U l) v ∧ Wd l ∧ ∃ a n k, v = .slice a n k := by
  obtain ⟨l, v, h1, h2, h3, _, h5⟩ := rep_slice1 (fun (x : Nat) => [SV.int .u64 (x : Int)]) (fun x => x < 18446744073709551616) (by omega) cells_u64 Try.underlying27 ho fun m xs hop => by
    obtain ⟨x, rfl, hw⟩ := opened_int Try.underlying58 hop
    have := u64_of_wf hw
    obtain ⟨k, rfl⟩ := Int.eq_ofNat_of_zero_le this.1
    exact ⟨k, by omega, rfl, reps_cons (.int _ _ _) reps_nil⟩
  exact ⟨l, v, h1, h5, h3, h2⟩
section
variable {H : Type} {enc : TypeId × Value → H} {W : World} {base : Nat} {v : Value} {d : DataW H} {p : List MemPlace}
theorem val_slice {t e : TypeId} (ht : Try.prog.underlying t = some (.slice e)) (hv : Value.okWide Try.prog W .any base t v) {x : Value} (hx : v.cells.toList = [x]) (hs : ∃ a n k, x = .slice a n k) : v = x := by
  obtain ⟨a, n, k, rfl⟩ := hs
  unfold Value.okWide at hv
  simp only [ht] at hv
  cases v <;> simp_all [Value.cells, Cell.okWide, Cell.ok]
theorem arg_ring (hv : Value.okWide Try.prog W .any base 22 v) (h : DataW.Trod enc Try.prog W 0 (fun _ => true) true 22 v d p) : ∃ n, Rep W nob [] (.int .i64 n) v ∧ I64 n := by
  obtain ⟨n, rfl⟩ := okWide_int Try.underlying22 hv
  obtain ⟨m, ho⟩ := opened_val h
  obtain ⟨x, hx, hw⟩ := opened_int Try.underlying22 ho
  simp [Value.cells] at hx
  subst hx
  exact ⟨n, .int _ _ _, i64_of_wf hw⟩
end
section
variable {H : Type} {enc : TypeId × Value → H} {W : World} {base : Nat} {v : Value} {d : DataW H} {p : List MemPlace}
theorem cells_rows : Try.prog.cellsOf 26 = 5 := by kernel_rfl
theorem cells_longs : Try.prog.cellsOf 24 = 1 := by kernel_rfl
theorem cells_ints : Try.prog.cellsOf 23 = 1 := by kernel_rfl
theorem opened_longs {W : World} {m : Nat} {xs : List Value} (ho : Opened Try.prog W m 24 xs) : ∃ l v, xs = [v] ∧ Rep W nob [] (Z l) v ∧ Zb l ∧ ∃ a n k, v = .slice a n k := by
  obtain ⟨l, v, h1, h2, h3, _, h5⟩ := rep_slice1 (fun (x : Int) => [SV.int .i64 x]) (fun x => -9223372036854775808 ≤ x ∧ x ≤ 9223372036854775807) (by omega) cells_i64 Try.underlying24 ho fun m xs hop => by
    obtain ⟨x, rfl, hw⟩ := opened_int Try.underlying2 hop
    exact ⟨x, i64_of_wf hw, rfl, reps_cons (.int _ _ _) reps_nil⟩
  exact ⟨l, v, h1, h5, h3, h2⟩
theorem opened_ints {W : World} {m : Nat} {xs : List Value} (ho : Opened Try.prog W m 23 xs) : ∃ l v, xs = [v] ∧ Rep W nob [] (Z l) v := by
  obtain ⟨l, v, h1, h2, h3, _, h5⟩ := rep_slice1 (fun (x : Int) => [SV.int .i64 x]) (fun _ => True) (by omega) cells_int Try.underlying23 ho fun m xs hop => by
    obtain ⟨x, rfl, hw⟩ := opened_int Try.underlying3 hop
    exact ⟨x, trivial, rfl, reps_cons (.int _ _ _) reps_nil⟩
  exact ⟨l, v, h1, h5⟩
theorem arg_longs (hv : Value.okWide Try.prog W .any base 24 v) (h : DataW.Trod enc Try.prog W 0 (fun _ => true) true 24 v d p) : ∃ l, Rep W nob [] (Z l) v ∧ Zb l := by
  obtain ⟨m, ho⟩ := opened_val h
  obtain ⟨l, x, h1, h2, h3, h4⟩ := opened_longs ho
  obtain rfl := val_slice Try.underlying24 hv h1 h4
  exact ⟨l, h2, h3⟩
theorem arg_rows (hv : Value.okWide Try.prog W .any base 26 v) (h : DataW.Trod enc Try.prog W 0 (fun _ => true) true 26 v d p) : ∃ a b s c l, Rep W nob [] (MX a b s c l) v ∧ Zb l := by
  obtain ⟨cs, rfl, _⟩ := okWide_struct Try.underlying26 hv
  obtain ⟨m, ho⟩ := opened_val h
  obtain ⟨hl, k, hf⟩ := opened_struct Try.underlying26 ho
  rw [cells_rows] at hl
  generalize hc : (Value.agg cs).cells.toList = l at *
  match l, hl with
  | [c0, c1, c2, c3, c4], _ =>
    simp [cells_int, cells_ints, cells_longs] at hf
    obtain ⟨h0, h1, h2, h3, h4⟩ := hf
    obtain ⟨a, ha, _⟩ := opened_int Try.underlying3 h0
    obtain ⟨b, hb, _⟩ := opened_int Try.underlying3 h1
    obtain ⟨s, x, hx, rx⟩ := opened_ints h2
    obtain ⟨c, y, hy, ry⟩ := opened_ints h3
    obtain ⟨g, z, hz, rz, wz, _⟩ := opened_longs h4
    simp at ha hb hx hy hz
    subst ha hb hx hy hz
    refine ⟨a, b, s, c, g, ?_, wz⟩
    rw [cells_agg hc]
    exact .agg _ _ _ rfl (reps_cons (.int _ _ _) (reps_cons (.int _ _ _) (reps_cons rx (reps_cons ry (reps_cons rz reps_nil))))).2
theorem cells_dense : Try.prog.cellsOf 29 = 3 := by kernel_rfl
theorem arg_dense (hv : Value.okWide Try.prog W .any base 29 v) (h : DataW.Trod enc Try.prog W 0 (fun _ => true) true 29 v d p) : ∃ n f l, Rep W nob [] (DV n f l) v ∧ I64 n ∧ Wd f ∧ Zb l := by
  obtain ⟨cs, rfl, _⟩ := okWide_struct Try.underlying29 hv
  obtain ⟨m, ho⟩ := opened_val h
  obtain ⟨hl, k, hf⟩ := opened_struct Try.underlying29 ho
  rw [cells_dense] at hl
  generalize hc : (Value.agg cs).cells.toList = l at *
  match l, hl with
  | [c0, c1, c2], _ =>
    simp [cells_int, cells_words, cells_longs] at hf
    obtain ⟨h0, h1, h2⟩ := hf
    obtain ⟨a, ha, wa⟩ := opened_int Try.underlying3 h0
    obtain ⟨f, x, hx, rx, wx, _⟩ := opened_words h1
    obtain ⟨g, y, hy, ry, wy, _⟩ := opened_longs h2
    simp at ha hx hy
    subst ha hx hy
    refine ⟨a, f, g, ?_, i64_of_wf wa, wx, wy⟩
    rw [cells_agg hc]
    exact .agg _ _ _ rfl (reps_cons (.int _ _ _) (reps_cons rx (reps_cons ry reps_nil))).2
end
section
variable {H : Type} {enc : TypeId × Value → H} {W : World} {base : Nat} {v : Value} {d : DataW H} {p : List MemPlace}
theorem okWide_array {t : TypeId} {m : Nat} {e : TypeId} (ht : Try.prog.underlying t = some (.array m e)) (hv : Value.okWide Try.prog W .any base t v) : ∃ cs, v = .agg cs ∧ cs.size = Try.prog.cellsOf t := by
  unfold Value.okWide at hv
  rw [ht] at hv
  obtain ⟨cs, h1, h2, _⟩ := hv
  exact ⟨cs, h1, h2⟩
theorem cells_triple : Try.prog.cellsOf 68 = 3 := by kernel_rfl
theorem cells_triples : Try.prog.cellsOf 38 = 1 := by kernel_rfl
theorem cells_u8 : Try.prog.cellsOf 5 = 1 := by kernel_rfl
theorem cells_u82 : Try.prog.cellsOf 37 = 2 := by kernel_rfl
theorem cells_bool : Try.prog.cellsOf 4 = 1 := by kernel_rfl
theorem cells_ring : Try.prog.cellsOf 22 = 1 := by kernel_rfl
theorem cells_task : Try.prog.cellsOf 41 = 8 := by kernel_rfl
theorem opened_triple {W : World} {m : Nat} {xs : List Value} (ho : Opened Try.prog W m 68 xs) :
    ∃ x : Int × Int × Int, I64 x.2.2 ∧ [SV.int .i64 x.1, SV.int .i64 x.2.1, SV.int .i64 x.2.2].length = 3 ∧ Reps W nob [] [.int .i64 x.1, .int .i64 x.2.1, .int .i64 x.2.2] xs := by
  obtain ⟨hl, k, hf⟩ := opened_struct Try.underlying68 ho
  rw [cells_triple] at hl
  match xs, hl with
  | [c0, c1, c2], _ =>
    simp [cells_int, cells_i64] at hf
    obtain ⟨h0, h1, h2⟩ := hf
    obtain ⟨a, ha, wa⟩ := opened_int Try.underlying3 h0
    obtain ⟨b, hb, wb⟩ := opened_int Try.underlying3 h1
    obtain ⟨c, hc, wc⟩ := opened_int Try.underlying2 h2
    simp at ha hb hc
    subst ha hb hc
    exact ⟨(a, b, c), i64_of_wf wc, rfl, reps_cons (.int _ _ _) (reps_cons (.int _ _ _) (reps_cons (.int _ _ _) reps_nil))⟩
theorem opened_triples {W : World} {m : Nat} {xs : List Value} (ho : Opened Try.prog W m 38 xs) : ∃ l v, xs = [v] ∧ Rep W nob [] (EL l) v ∧ ∀ x ∈ l, I64 x.2.2 := by
  obtain ⟨l, v, h1, h2, h3, _, h5⟩ := rep_slice1 (fun x : Int × Int × Int => [SV.int .i64 x.1, SV.int .i64 x.2.1, SV.int .i64 x.2.2]) (fun x => I64 x.2.2) (by omega) cells_triple Try.underlying38 ho fun m xs hop => opened_triple hop
  exact ⟨l, v, h1, h5, h3⟩
theorem arg_task (hv : Value.okWide Try.prog W .any base 41 v) (h : DataW.Trod enc Try.prog W 0 (fun _ => true) true 41 v d p) :
    ∃ r a b l x y f o, Rep W nob [] (TK r a b l x y f o) v ∧ I64 r ∧ (0 ≤ a ∧ a ≤ 255) ∧ (0 ≤ b ∧ b ≤ 255) ∧ (∀ x ∈ l, I64 x.2.2) ∧ Ib x ∧ Ib y ∧ Wd f := by
  obtain ⟨cs, rfl, _⟩ := okWide_struct Try.underlying41 hv
  obtain ⟨m, ho⟩ := opened_val h
  obtain ⟨hl, k, hf⟩ := opened_struct Try.underlying41 ho
  rw [cells_task] at hl
  generalize hc : (Value.agg cs).cells.toList = l at *
  match l, hl with
  | [c0, c1, c2, c3, c4, c5, c6, c7], _ =>
    simp [cells_ring, cells_u82, cells_triples, cells_items, cells_words, cells_bool] at hf
    obtain ⟨h0, h1, h2, h3, h4, h5, h6⟩ := hf
    obtain ⟨r, hr, wr⟩ := opened_int Try.underlying22 h0
    obtain ⟨_, k', hs⟩ := opened_array Try.underlying37 h1
    have g0 := hs 0 (by omega)
    have g1 := hs 1 (by omega)
    rw [cells_u8] at g0 g1
    obtain ⟨a, ha, wa⟩ := opened_int Try.underlying5 g0
    obtain ⟨b, hb, wb⟩ := opened_int Try.underlying5 g1
    obtain ⟨l, u, hu, ru, wu⟩ := opened_triples h2
    obtain ⟨x, s, hs', rs, ws, _⟩ := opened_items h3
    obtain ⟨y, t, ht, rt, wt, _⟩ := opened_items h4
    obtain ⟨f, z, hz, rz, wz, _⟩ := opened_words h5
    obtain ⟨o, hb'⟩ := opened_bool Try.underlying4 h6
    simp at hr ha hb hu hs' ht hz hb'
    subst hr ha hb hu hs' ht hz hb'
    refine ⟨r, a, b, l, x, y, f, o, ?_, i64_of_wf wr, u8_of_wf wa, u8_of_wf wb, wu, ws, wt, wz⟩
    rw [cells_agg hc]
    exact .agg _ _ _ rfl (reps_cons (.int _ _ _) (reps_cons (.int _ _ _) (reps_cons (.int _ _ _) (reps_cons ru (reps_cons rs (reps_cons rt (reps_cons rz (reps_cons (.bool _ _) reps_nil)))))))).2
end
end Go.Proofs.Ytlbmjnammgffiaa
