/-
  The law on products by blocks: each returns true at every input that can be read, and writes nothing that was there.
-/
import Derived.Test.YtelbhbadkbcakaaGreatL9
namespace Go.Proofs.YtelbhbadkbcakaaGreat
open Go.ChangeShapes Go.WideShapes Go.ChangeAt Go.RowKit
set_option maxRecDepth 100000
theorem own : ownKnob Tryz.prog.godebug = none := by kernel_rfl
theorem laidOut : laidOutB Tryz.prog = true := by kernel_rfl
theorem cells_u64 : Tryz.prog.cellsOf 91 = 1 := by kernel_rfl
theorem cells_int : Tryz.prog.cellsOf 3 = 1 := by kernel_rfl
theorem cells_i64 : Tryz.prog.cellsOf 2 = 1 := by kernel_rfl
theorem cells_items : Tryz.prog.cellsOf 25 = 1 := by kernel_rfl
theorem cells_item : Tryz.prog.cellsOf 66 = 2 := by kernel_rfl
theorem cells_words : Tryz.prog.cellsOf 26 = 1 := by kernel_rfl
theorem calls_of_fs {P : Program} {f : FuncId} {args : List SV} (h : FS P f args (.bool true)) {w : World} {vs : List Value} (hr : Reps w nob [] args vs) : Calls P f vs.toArray w fun e w' => e = .returned (.bool true) ∧ Below w.heap.size w w' := by
  refine (h.2 w nob vs (fun _ h => h.elim) hr.1 hr.2).mono ?_
  rintro e w' ⟨v, rfl, hb, hv⟩
  rw [rep_bool hv]
  exact ⟨rfl, hb.low⟩
theorem reps_nil {w : World} {A : Nat → Prop} {β : List (Option Nat)} : Reps w A β [] [] := ⟨rfl, fun i f v h => by simp at h⟩
theorem reps_cons {w : World} {A : Nat → Prop} {β : List (Option Nat)} {x : SV} {v : Value} {xs : List SV} {vs : List Value} (h : Rep w A β x v) (k : Reps w A β xs vs) : Reps w A β (x :: xs) (v :: vs) :=
  ⟨by simp [k.1], fun i f u hf hu => by
    cases i with
    | zero => simp at hf hu; subst hf hu; exact h
    | succ i => exact k.2 i f u (by simpa using hf) (by simpa using hu)⟩
theorem opened_item {W : World} {m : Nat} {xs : List Value} (ho : Opened Tryz.prog W m 66 xs) :
    ∃ x : Int × Int, (I64 x.1 ∧ I64 x.2) ∧ [SV.int .i64 x.1, SV.int .i64 x.2].length = 2 ∧ Reps W nob [] [.int .i64 x.1, .int .i64 x.2] xs := by
  obtain ⟨hl, k, hf⟩ := opened_struct Tryz.underlying66 ho
  rw [cells_item] at hl
  match xs, hl with
  | [c0, c1], _ =>
    simp [cells_int, cells_i64] at hf
    obtain ⟨h0, h1⟩ := hf
    obtain ⟨a, ha, wa⟩ := opened_int Tryz.underlying3 h0
    obtain ⟨b, hb, wb⟩ := opened_int Tryz.underlying2 h1
    simp at ha hb
    subst ha hb
    exact ⟨(a, b), ⟨i64_of_wf wa, i64_of_wf wb⟩, rfl, reps_cons (.int _ _ _) (reps_cons (.int _ _ _) reps_nil)⟩
theorem opened_items {W : World} {m : Nat} {xs : List Value} (ho : Opened Tryz.prog W m 25 xs) : ∃ l v, xs = [v] ∧ Rep W nob [] (IL l) v ∧ Ib l ∧ ∃ a n k, v = .slice a n k := by
  obtain ⟨l, v, h1, h2, h3, _, h5⟩ := rep_slice1 (fun x : Int × Int => [SV.int .i64 x.1, SV.int .i64 x.2]) (fun x => I64 x.1 ∧ I64 x.2) (by omega) cells_item Tryz.underlying25 ho fun m xs hop => opened_item hop
  exact ⟨l, v, h1, h5, h3, h2⟩
theorem opened_words {W : World} {m : Nat} {xs : List Value} (ho : Opened Tryz.prog W m 26 xs) : ∃ l v, xs = [v] ∧ Rep W nob [] (U l) v ∧ Wd l ∧ ∃ a n k, v = .slice a n k := by
  obtain ⟨l, v, h1, h2, h3, _, h5⟩ := rep_slice1 (fun (x : Nat) => [SV.int .u64 (x : Int)]) (fun x => x < 18446744073709551616) (by omega) cells_u64 Tryz.underlying26 ho fun m xs hop => by
    obtain ⟨x, rfl, hw⟩ := opened_int Tryz.underlying91 hop
    have := u64_of_wf hw
    obtain ⟨k, rfl⟩ := Int.eq_ofNat_of_zero_le this.1
    exact ⟨k, by omega, rfl, reps_cons (.int _ _ _) reps_nil⟩
  exact ⟨l, v, h1, h5, h3, h2⟩
section
variable {H : Type} {enc : TypeId × Value → H} {W : World} {base : Nat} {v : Value} {d : DataW H} {p : List MemPlace}
theorem val_slice {t e : TypeId} (ht : Tryz.prog.underlying t = some (.slice e)) (hv : Value.okWide Tryz.prog W .any base t v) {x : Value} (hx : v.cells.toList = [x]) (hs : ∃ a n k, x = .slice a n k) : v = x := by
  obtain ⟨a, n, k, rfl⟩ := hs
  unfold Value.okWide at hv
  simp only [ht] at hv
  cases v <;> simp_all [Value.cells, Cell.okWide, Cell.ok]
end
section
variable {H : Type} {enc : TypeId × Value → H} {W : World} {base : Nat} {v : Value} {d : DataW H} {p : List MemPlace}
theorem okWide_array {t : TypeId} {m : Nat} {e : TypeId} (ht : Tryz.prog.underlying t = some (.array m e)) (hv : Value.okWide Tryz.prog W .any base t v) : ∃ cs, v = .agg cs ∧ cs.size = Tryz.prog.cellsOf t := by
  unfold Value.okWide at hv
  rw [ht] at hv
  obtain ⟨cs, h1, h2, _⟩ := hv
  exact ⟨cs, h1, h2⟩
theorem cells_triple : Tryz.prog.cellsOf 87 = 3 := by kernel_rfl
theorem cells_triples : Tryz.prog.cellsOf 24 = 1 := by kernel_rfl
theorem cells_u8 : Tryz.prog.cellsOf 5 = 1 := by kernel_rfl
theorem cells_u82 : Tryz.prog.cellsOf 23 = 2 := by kernel_rfl
theorem cells_bool : Tryz.prog.cellsOf 4 = 1 := by kernel_rfl
theorem cells_ring : Tryz.prog.cellsOf 22 = 1 := by kernel_rfl
theorem cells_task : Tryz.prog.cellsOf 28 = 8 := by kernel_rfl
theorem opened_triple {W : World} {m : Nat} {xs : List Value} (ho : Opened Tryz.prog W m 87 xs) :
    ∃ x : Int × Int × Int, I64 x.2.2 ∧ [SV.int .i64 x.1, SV.int .i64 x.2.1, SV.int .i64 x.2.2].length = 3 ∧ Reps W nob [] [.int .i64 x.1, .int .i64 x.2.1, .int .i64 x.2.2] xs := by
  obtain ⟨hl, k, hf⟩ := opened_struct Tryz.underlying87 ho
  rw [cells_triple] at hl
  match xs, hl with
  | [c0, c1, c2], _ =>
    simp [cells_int, cells_i64] at hf
    obtain ⟨h0, h1, h2⟩ := hf
    obtain ⟨a, ha, wa⟩ := opened_int Tryz.underlying3 h0
    obtain ⟨b, hb, wb⟩ := opened_int Tryz.underlying3 h1
    obtain ⟨c, hc, wc⟩ := opened_int Tryz.underlying2 h2
    simp at ha hb hc
    subst ha hb hc
    exact ⟨(a, b, c), i64_of_wf wc, rfl, reps_cons (.int _ _ _) (reps_cons (.int _ _ _) (reps_cons (.int _ _ _) reps_nil))⟩
theorem opened_triples {W : World} {m : Nat} {xs : List Value} (ho : Opened Tryz.prog W m 24 xs) : ∃ l v, xs = [v] ∧ Rep W nob [] (EL l) v ∧ ∀ x ∈ l, I64 x.2.2 := by
  obtain ⟨l, v, h1, h2, h3, _, h5⟩ := rep_slice1 (fun x : Int × Int × Int => [SV.int .i64 x.1, SV.int .i64 x.2.1, SV.int .i64 x.2.2]) (fun x => I64 x.2.2) (by omega) cells_triple Tryz.underlying24 ho fun m xs hop => opened_triple hop
  exact ⟨l, v, h1, h5, h3⟩
theorem arg_task (hv : Value.okWide Tryz.prog W .any base 28 v) (h : DataW.Trod enc Tryz.prog W 0 (fun _ => true) true 28 v d p) :
    ∃ r a b l x y f o, Rep W nob [] (TK r a b l x y f o) v ∧ I64 r ∧ (0 ≤ a ∧ a ≤ 255) ∧ (0 ≤ b ∧ b ≤ 255) ∧ (∀ x ∈ l, I64 x.2.2) ∧ Ib x ∧ Ib y ∧ Wd f := by
  obtain ⟨cs, rfl, _⟩ := okWide_struct Tryz.underlying28 hv
  obtain ⟨m, ho⟩ := opened_val h
  obtain ⟨hl, k, hf⟩ := opened_struct Tryz.underlying28 ho
  rw [cells_task] at hl
  generalize hc : (Value.agg cs).cells.toList = l at *
  match l, hl with
  | [c0, c1, c2, c3, c4, c5, c6, c7], _ =>
    simp [cells_ring, cells_u82, cells_triples, cells_items, cells_words, cells_bool] at hf
    obtain ⟨h0, h1, h2, h3, h4, h5, h6⟩ := hf
    obtain ⟨r, hr, wr⟩ := opened_int Tryz.underlying22 h0
    obtain ⟨_, k', hs⟩ := opened_array Tryz.underlying23 h1
    have g0 := hs 0 (by omega)
    have g1 := hs 1 (by omega)
    rw [cells_u8] at g0 g1
    obtain ⟨a, ha, wa⟩ := opened_int Tryz.underlying5 g0
    obtain ⟨b, hb, wb⟩ := opened_int Tryz.underlying5 g1
    obtain ⟨l, u, hu, ru, wu⟩ := opened_triples h2
    obtain ⟨x, s, hs', rs, ws, _⟩ := opened_items h3
    obtain ⟨y, t, ht, rt, wt, _⟩ := opened_items h4
    obtain ⟨f, z, hz, rz, wz, _⟩ := opened_words h5
    obtain ⟨o, hb'⟩ := opened_bool Tryz.underlying4 h6
    simp at hr ha hb hu hs' ht hz hb'
    subst hr ha hb hu hs' ht hz hb'
    refine ⟨r, a, b, l, x, y, f, o, ?_, i64_of_wf wr, u8_of_wf wa, u8_of_wf wb, wu, ws, wt, wz⟩
    rw [cells_agg hc]
    exact .agg _ _ _ rfl (reps_cons (.int _ _ _) (reps_cons (.int _ _ _) (reps_cons (.int _ _ _) (reps_cons ru (reps_cons rs (reps_cons rt (reps_cons rz (reps_cons (.bool _ _) reps_nil)))))))).2
end
section
variable {H : Type} {enc : TypeId × Value → H} {W : World} {base : Nat} {v : Value} {d : DataW H} {p : List MemPlace}
theorem arg_u82 (hv : Value.okWide Tryz.prog W .any base 23 v) (h : DataW.Trod enc Tryz.prog W 0 (fun _ => true) true 23 v d p) : ∃ a b, Rep W nob [] (.agg [.int .u8 a, .int .u8 b]) v ∧ (0 ≤ a ∧ a ≤ 255) ∧ (0 ≤ b ∧ b ≤ 255) := by
  obtain ⟨cs, rfl, hsz⟩ := okWide_array Tryz.underlying23 hv
  obtain ⟨m, ho⟩ := opened_val h
  obtain ⟨hl, k, hs⟩ := opened_array Tryz.underlying23 ho
  rw [cells_u82] at hl
  generalize hc : (Value.agg cs).cells.toList = l at *
  match l, hl with
  | [c0, c1], _ =>
    have g0 := hs 0 (by omega)
    have g1 := hs 1 (by omega)
    rw [cells_u8] at g0 g1
    obtain ⟨a, ha, wa⟩ := opened_int Tryz.underlying5 g0
    obtain ⟨b, hb, wb⟩ := opened_int Tryz.underlying5 g1
    simp at ha hb
    subst ha hb
    refine ⟨a, b, ?_, u8_of_wf wa, u8_of_wf wb⟩
    rw [cells_agg hc]
    exact .agg _ _ _ rfl (reps_cons (.int _ _ _) (reps_cons (.int _ _ _) reps_nil)).2
theorem cells_way : Tryz.prog.cellsOf 29 = 1 := by kernel_rfl
theorem cells_form : Tryz.prog.cellsOf 30 = 1 := by kernel_rfl
theorem cells_choice : Tryz.prog.cellsOf 32 = 2 := by kernel_rfl
theorem arg_choice (hv : Value.okWide Tryz.prog W .any base 32 v) (h : DataW.Trod enc Tryz.prog W 0 (fun _ => true) true 32 v d p) : ∃ a b, Rep W nob [] (.agg [.int .i64 a, .int .i64 b]) v := by
  obtain ⟨cs, rfl, _⟩ := okWide_struct Tryz.underlying32 hv
  obtain ⟨m, ho⟩ := opened_val h
  obtain ⟨hl, k, hf⟩ := opened_struct Tryz.underlying32 ho
  rw [cells_choice] at hl
  generalize hc : (Value.agg cs).cells.toList = l at *
  match l, hl with
  | [c0, c1], _ =>
    simp [cells_way, cells_form] at hf
    obtain ⟨h0, h1⟩ := hf
    obtain ⟨a, ha, _⟩ := opened_int Tryz.underlying29 h0
    obtain ⟨b, hb, _⟩ := opened_int Tryz.underlying30 h1
    simp at ha hb
    subst ha hb
    refine ⟨a, b, ?_⟩
    rw [cells_agg hc]
    exact .agg _ _ _ rfl (reps_cons (.int _ _ _) (reps_cons (.int _ _ _) reps_nil)).2
end
set_option maxRecDepth 100000 in
theorem topBlocks_lifted (os : Os) (started : os.Started) (H : Type) (enc : TypeId × Value → H) :
    ReturnsInHanded {} Tryz.checked os 3 .any (Rows.topBlocksSpec.pre6 enc Tryz.prog Tryz.f3 Rows.topBlocksRow.domain false) (Rows.topBlocksSpec.post enc Tryz.prog Tryz.f3 false true false false) := by
  refine returnsInHanded_of_change (C := Tryz.checked) own started (by kernel_rfl) Tryz.func3
    (ChangeSpec.witness6 (enc := enc) (C := Tryz.checked) false ⟨#[], #[.agg #[.int .i64 0, .int .u8 0, .int .u8 0, .slice none 0 0, .slice none 0 0, .slice none 0 0, .slice none 0 0, .bool false], .agg #[.int .u8 0, .int .u8 0], .agg #[.int .i64 0, .int .i64 0]], []⟩ 8 (by kernel_rfl) (by kernel_rfl) (by kernel_rfl) (by kernel_rfl)) ?_
  intro W base args ds gs before hval0 hW hcnd _
  have hval : ∀ (j : Nat) t v, Tryz.f3.params[j]? = some t → args[j]? = some v → Value.okWide Tryz.prog W .any base t v := hval0
  have hW' := hW
  obtain ⟨p, q, hA0, hV, rfl, hfz, hnd⟩ := hW
  have hA : DataW.TrodAll enc Tryz.prog W 0 (fun _ => true) true Tryz.f3.params.toList args.toList ds p := hA0
  rw [Tryz.params3] at hA hval
  obtain ⟨v0, vs0, d0, ds0, p0, q0, hargs, rfl, rfl, h0, r0⟩ := trodAll_cons hA
  obtain ⟨v1, vs1, d1, ds1, p1, q1, rfl, rfl, rfl, h1, r1⟩ := trodAll_cons r0
  obtain ⟨v2, vs2, d2, ds2, p2, q2, rfl, rfl, rfl, h2, r2⟩ := trodAll_cons r1
  obtain ⟨rfl, rfl, rfl⟩ := trodAll_nil r2
  obtain rfl : args = #[v0, v1, v2] := by cases args; simp_all
  obtain ⟨rfl, rfl⟩ := trodVars_none hV
  have k0 := h0
  have lt0 : ∀ x ∈ p0, x.block < W.heap.size := by obtain ⟨m, hm⟩ := k0; exact DataW.trod_lt m _ _ _ hm
  have k1 := h1
  have lt1 : ∀ x ∈ p1, x.block < W.heap.size := by obtain ⟨m, hm⟩ := k1; exact DataW.trod_lt m _ _ _ hm
  have k2 := h2
  have lt2 : ∀ x ∈ p2, x.block < W.heap.size := by obtain ⟨m, hm⟩ := k2; exact DataW.trod_lt m _ _ _ hm
  obtain ⟨r, a, b, l, x, y, f, o, r_t, w_r, w_a, w_b, w_l, w_x, w_y, w_f⟩ := arg_task (hval 0 28 v0 rfl rfl) h0
  obtain ⟨c0, c1, r_c, w_c0, w_c1⟩ := arg_u82 (hval 1 23 v1 rfl rfl) h1
  obtain ⟨way, form, r_o⟩ := arg_choice (hval 2 32 v2 rfl rfl) h2
  clear hA0 hval0
  refine (calls_of_fs (fs_TopBlocks r a b l x y f o c0 c1 way form w_a w_b w_l w_x w_c0 w_c1) (reps_cons r_t (reps_cons r_c (reps_cons r_o reps_nil)))).mono fun e W' ⟨he, bel⟩ => ?_
  subst he
  exact ⟨_, rfl, _, _, _, [], _, [], hW', trodAll_mk1 (shut_bool Tryz.underlying4 _), (trodAll_cons_mk (Below.trod laidOut (by kernel_rfl) (of_decide_eq_true (by kernel_rfl)) k0 bel lt0) (trodAll_cons_mk (Below.trod laidOut (by kernel_rfl) (of_decide_eq_true (by kernel_rfl)) k1 bel lt1) (trodAll_cons_mk (Below.trod laidOut (by kernel_rfl) (of_decide_eq_true (by kernel_rfl)) k2 bel lt2) trodAll_mk0))), rfl, bel.frame _, fun h => by cases h⟩

theorem topBlocks_holds : Rows.TopBlocksSaid :=
  OpenClaim.holds_of_wide 3 Tryz.f3 rfl rfl rfl rfl rfl rfl rfl ⟨rfl, rfl, rfl, rfl, rfl⟩ rfl rfl rfl rfl rfl (by kernel_rfl) Tryz.func3 (by kernel_rfl)
    (of_decide_eq_true (by kernel_rfl)) (by unfold Func.isWrapper; first | (rw [if_pos (by decide +kernel)]; kernel_rfl) | (rw [if_neg (by decide +kernel)]; exact ⟨rfl, rfl⟩))
    (fun os started H enc _ => topBlocks_lifted os started H enc)
#print axioms topBlocks_holds
end Go.Proofs.YtelbhbadkbcakaaGreat
