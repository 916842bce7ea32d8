/-
  The laws on sets of places: each returns true at every input that can be read, and writes nothing that was there.
-/
import Derived.Test.YtefciekodhpefaaFo
import Derived.Test.YtefciekodhpefaaOq
namespace Go.Proofs.Ytefciekodhpefaa
open Go.ChangeShapes Go.WideShapes Go.ChangeAt Go.RowKit
theorem own : ownKnob Try.prog.godebug = none := by kernel_rfl
theorem laidOut : laidOutB Try.prog = true := by kernel_rfl
theorem cells_u64 : Try.prog.cellsOf 48 = 1 := by kernel_rfl
theorem cells_int : Try.prog.cellsOf 3 = 1 := by kernel_rfl
theorem cells_u16 : Try.prog.cellsOf 42 = 1 := by kernel_rfl
theorem cells_int2 : Try.prog.cellsOf 37 = 2 := by kernel_rfl
theorem cells_u162 : Try.prog.cellsOf 44 = 2 := by kernel_rfl
theorem calls_of_fs {P : Program} {f : FuncId} {args : List SV} (h : FS P f args (.bool true)) {w : World} {vs : List Value} (hr : Reps w nob [] args vs) : Calls P f vs.toArray w fun e w' => e = .returned (.bool true) ∧ Below w.heap.size w w' := by
  refine (h.2 w nob vs (fun _ h => h.elim) hr.1 hr.2).mono ?_
  rintro e w' ⟨v, rfl, hb, hv⟩
  rw [rep_bool hv]
  exact ⟨rfl, hb⟩
theorem reps_nil {w : World} {A : Nat → Prop} {β : List (Option Nat)} : Reps w A β [] [] := ⟨rfl, fun i f v h => by simp at h⟩
theorem reps_cons {w : World} {A : Nat → Prop} {β : List (Option Nat)} {x : SV} {v : Value} {xs : List SV} {vs : List Value} (h : Rep w A β x v) (k : Reps w A β xs vs) : Reps w A β (x :: xs) (v :: vs) :=
  ⟨by simp [k.1], fun i f u hf hu => by
    cases i with
    | zero => simp at hf hu; subst hf hu; exact h
    | succ i => exact k.2 i f u (by simpa using hf) (by simpa using hu)⟩
section
variable {H : Type} {enc : TypeId × Value → H} {W : World} {base : Nat} {v : Value} {d : DataW H} {p : List MemPlace}
theorem arg_int (hv : Value.okWide Try.prog W .any base 3 v) (h : DataW.Trod enc Try.prog W 0 (fun _ => true) true 3 v d p) : ∃ n, Rep W nob [] (.int .i64 n) v ∧ -9223372036854775808 ≤ n ∧ n ≤ 9223372036854775807 := by
  obtain ⟨n, rfl⟩ := okWide_int Try.underlying3 hv
  obtain ⟨m, ho⟩ := opened_val h
  obtain ⟨x, hx, hw⟩ := opened_int Try.underlying3 ho
  simp [Value.cells] at hx
  subst hx
  exact ⟨n, .int _ _ _, i64_of_wf hw⟩
theorem arg_u16 (hv : Value.okWide Try.prog W .any base 42 v) (h : DataW.Trod enc Try.prog W 0 (fun _ => true) true 42 v d p) : ∃ n : Nat, Rep W nob [] (.int .u16 (n : Int)) v ∧ n < 65536 := by
  obtain ⟨n, rfl⟩ := okWide_int Try.underlying42 hv
  obtain ⟨m, ho⟩ := opened_val h
  obtain ⟨x, hx, hw⟩ := opened_int Try.underlying42 ho
  simp [Value.cells] at hx
  subst hx
  have := u16_of_wf hw
  obtain ⟨k, rfl⟩ := Int.eq_ofNat_of_zero_le this.1
  exact ⟨k, .int _ _ _, by omega⟩
theorem arg_int2 (hv : Value.okWide Try.prog W .any base 37 v) (h : DataW.Trod enc Try.prog W 0 (fun _ => true) true 37 v d p) :
    ∃ a b, Rep W nob [] (.agg [.int .i64 a, .int .i64 b]) v ∧ (-9223372036854775808 ≤ a ∧ a ≤ 9223372036854775807) ∧ -9223372036854775808 ≤ b ∧ b ≤ 9223372036854775807 := by
  have hv' : ∃ cs, v = .agg cs ∧ cs.size = Try.prog.cellsOf 37 := by
    unfold Value.okWide at hv
    rw [Try.underlying37] at hv
    obtain ⟨cs, h1, h2, _⟩ := hv
    exact ⟨cs, h1, h2⟩
  obtain ⟨cs, rfl, _⟩ := hv'
  obtain ⟨m, ho⟩ := opened_val h
  obtain ⟨hl, k, hf⟩ := opened_array Try.underlying37 ho
  rw [cells_int2] at hl
  generalize hc : (Value.agg cs).cells.toList = l at *
  match l, hl with
  | [c0, c1], _ =>
    have h0 := hf 0 (by omega)
    have h1 := hf 1 (by omega)
    rw [cells_int] at h0 h1
    obtain ⟨a, ha, wa⟩ := opened_int Try.underlying3 h0
    obtain ⟨b, hb, wb⟩ := opened_int Try.underlying3 h1
    simp at ha hb
    subst ha hb
    refine ⟨a, b, ?_, i64_of_wf wa, i64_of_wf wb⟩
    rw [cells_agg hc]
    exact .agg _ _ _ rfl (reps_cons (.int _ _ _) (reps_cons (.int _ _ _) reps_nil)).2
theorem arg_u162 (hv : Value.okWide Try.prog W .any base 44 v) (h : DataW.Trod enc Try.prog W 0 (fun _ => true) true 44 v d p) :
    ∃ a b : Nat, Rep W nob [] (.agg [.int .u16 (a : Int), .int .u16 (b : Int)]) v ∧ a < 65536 := by
  have hv' : ∃ cs, v = .agg cs ∧ cs.size = Try.prog.cellsOf 44 := by
    unfold Value.okWide at hv
    rw [Try.underlying44] at hv
    obtain ⟨cs, h1, h2, _⟩ := hv
    exact ⟨cs, h1, h2⟩
  obtain ⟨cs, rfl, _⟩ := hv'
  obtain ⟨m, ho⟩ := opened_val h
  obtain ⟨hl, k, hf⟩ := opened_array Try.underlying44 ho
  rw [cells_u162] at hl
  generalize hc : (Value.agg cs).cells.toList = l at *
  match l, hl with
  | [c0, c1], _ =>
    have h0 := hf 0 (by omega)
    have h1 := hf 1 (by omega)
    rw [cells_u16] at h0 h1
    obtain ⟨a, ha, wa⟩ := opened_int Try.underlying42 h0
    obtain ⟨b, hb, wb⟩ := opened_int Try.underlying42 h1
    simp at ha hb
    subst ha hb
    have ua := u16_of_wf wa
    have ub := u16_of_wf wb
    obtain ⟨a, rfl⟩ := Int.eq_ofNat_of_zero_le ua.1
    obtain ⟨b, rfl⟩ := Int.eq_ofNat_of_zero_le ub.1
    refine ⟨a, b, ?_, by omega⟩
    rw [cells_agg hc]
    exact .agg _ _ _ rfl (reps_cons (.int _ _ _) (reps_cons (.int _ _ _) reps_nil)).2
theorem arg_words (hv : Value.okWide Try.prog W .any base 22 v) (h : DataW.Trod enc Try.prog W 0 (fun _ => true) true 22 v d p) : ∃ ws, Rep W nob [] (U ws) v ∧ Wd ws := by
  obtain ⟨m, ho⟩ := opened_val h
  obtain ⟨l, h1, _, h2⟩ := rep_slice (fun (x : Nat) => [SV.int .u64 (x : Int)]) (fun x => x < 18446744073709551616) (by omega) cells_u64 Try.underlying22 hv ho fun m xs hop => by
    obtain ⟨x, rfl, hw⟩ := opened_int Try.underlying48 hop
    have := u64_of_wf hw
    obtain ⟨k, rfl⟩ := Int.eq_ofNat_of_zero_le this.1
    exact ⟨k, by omega, rfl, reps_cons (.int _ _ _) reps_nil⟩
  exact ⟨l, h2, h1⟩
theorem arg_ints (hv : Value.okWide Try.prog W .any base 23 v) (h : DataW.Trod enc Try.prog W 0 (fun _ => true) true 23 v d p) : ∃ l, Rep W nob [] (Z l) v ∧ Zb l := by
  obtain ⟨m, ho⟩ := opened_val h
  obtain ⟨l, h1, _, h2⟩ := rep_slice (fun (x : Int) => [SV.int .i64 x]) (fun x => -9223372036854775808 ≤ x ∧ x ≤ 9223372036854775807) (by omega) cells_int Try.underlying23 hv ho fun m xs hop => by
    obtain ⟨x, rfl, hw⟩ := opened_int Try.underlying3 hop
    exact ⟨x, i64_of_wf hw, rfl, reps_cons (.int _ _ _) reps_nil⟩
  exact ⟨l, h2, h1⟩
end
set_option maxRecDepth 100000 in
theorem flagsMake_lifted (os : Os) (started : os.Started) (H : Type) (enc : TypeId × Value → H) :
    ReturnsInHanded {} Try.checked os 3 .any (Rows.flagsMakeSpec.pre6 enc Try.prog Try.f3 Rows.flagsMakeRow.domain false) (Rows.flagsMakeSpec.post enc Try.prog Try.f3 false true false false) := by
  refine returnsInHanded_of_change (C := Try.checked) own started (by kernel_rfl) Try.func3
    (ChangeSpec.witness6 (enc := enc) (C := Try.checked) false ⟨#[], #[.slice none 0 0, .int .i64 0, .slice none 0 0], []⟩ 8 (by kernel_rfl) (by kernel_rfl) (by kernel_rfl) (by kernel_rfl)) ?_
  intro W base args ds gs before hval0 hW hcnd _
  have hval : ∀ (j : Nat) t v, Try.f3.params[j]? = some t → args[j]? = some v → Value.okWide Try.prog W .any base t v := hval0
  have hW' := hW
  obtain ⟨p, q, hA0, hV, rfl, hfz, hnd⟩ := hW
  have hA : DataW.TrodAll enc Try.prog W 0 (fun _ => true) true Try.f3.params.toList args.toList ds p := hA0
  rw [Try.params3] at hA hval
  obtain ⟨v0, vs0, d0, ds0, p0, q0, hargs, rfl, rfl, h0, r0⟩ := trodAll_cons hA
  obtain ⟨v1, vs1, d1, ds1, p1, q1, rfl, rfl, rfl, h1, r1⟩ := trodAll_cons r0
  obtain ⟨v2, vs2, d2, ds2, p2, q2, rfl, rfl, rfl, h2, r2⟩ := trodAll_cons r1
  obtain ⟨rfl, rfl, rfl⟩ := trodAll_nil r2
  obtain rfl : args = #[v0, v1, v2] := by cases args; simp_all
  obtain ⟨rfl, rfl⟩ := trodVars_none hV
  have k0 := h0
  have lt0 : ∀ x ∈ p0, x.block < W.heap.size := by obtain ⟨m, hm⟩ := k0; exact DataW.trod_lt m _ _ _ hm
  have k1 := h1
  have lt1 : ∀ x ∈ p1, x.block < W.heap.size := by obtain ⟨m, hm⟩ := k1; exact DataW.trod_lt m _ _ _ hm
  have k2 := h2
  have lt2 : ∀ x ∈ p2, x.block < W.heap.size := by obtain ⟨m, hm⟩ := k2; exact DataW.trod_lt m _ _ _ hm
  obtain ⟨f, r_f, w_f⟩ := arg_words (hval 0 22 v0 rfl rfl) h0
  obtain ⟨n, r_n, l_n, u_n⟩ := arg_int (hval 1 3 v1 rfl rfl) h1
  obtain ⟨l, r_l, w_l⟩ := arg_ints (hval 2 23 v2 rfl rfl) h2
  clear hA0 hval0
  refine (calls_of_fs (fs_FlagsMake f w_f n l_n u_n l w_l) (reps_cons r_f (reps_cons r_n (reps_cons r_l reps_nil)))).mono fun e W' ⟨he, bel⟩ => ?_
  subst he
  exact ⟨_, rfl, _, _, _, [], _, [], hW', trodAll_mk1 (shut_bool Try.underlying4 _), (trodAll_cons_mk (Below.trod laidOut (by kernel_rfl) (of_decide_eq_true (by kernel_rfl)) k0 bel lt0) (trodAll_cons_mk (Below.trod laidOut (by kernel_rfl) (of_decide_eq_true (by kernel_rfl)) k1 bel lt1) (trodAll_cons_mk (Below.trod laidOut (by kernel_rfl) (of_decide_eq_true (by kernel_rfl)) k2 bel lt2) trodAll_mk0))), rfl, bel.frame _, fun h => by cases h⟩

theorem flagsMake_holds : Rows.FlagsMakeSaid :=
  OpenClaim.holds_of_wide 3 Try.f3 rfl rfl rfl rfl rfl rfl rfl ⟨rfl, rfl, rfl, rfl, rfl⟩ rfl rfl rfl rfl rfl (by kernel_rfl) Try.func3 (by kernel_rfl)
    (of_decide_eq_true (by kernel_rfl)) (by unfold Func.isWrapper; first | (rw [if_pos (by decide +kernel)]; kernel_rfl) | (rw [if_neg (by decide +kernel)]; exact ⟨rfl, rfl⟩))
    (fun os started H enc _ => flagsMake_lifted os started H enc)
#print axioms flagsMake_holds
set_option maxRecDepth 100000 in
theorem flagsAsk_lifted (os : Os) (started : os.Started) (H : Type) (enc : TypeId × Value → H) :
    ReturnsInHanded {} Try.checked os 4 .any (Rows.flagsAskSpec.pre6 enc Try.prog Try.f4 Rows.flagsAskRow.domain false) (Rows.flagsAskSpec.post enc Try.prog Try.f4 false true false false) := by
  refine returnsInHanded_of_change (C := Try.checked) own started (by kernel_rfl) Try.func4
    (ChangeSpec.witness6 (enc := enc) (C := Try.checked) false ⟨#[], #[.slice none 0 0, .int .i64 0], []⟩ 8 (by kernel_rfl) (by kernel_rfl) (by kernel_rfl) (by kernel_rfl)) ?_
  intro W base args ds gs before hval0 hW hcnd _
  have hval : ∀ (j : Nat) t v, Try.f4.params[j]? = some t → args[j]? = some v → Value.okWide Try.prog W .any base t v := hval0
  have hW' := hW
  obtain ⟨p, q, hA0, hV, rfl, hfz, hnd⟩ := hW
  have hA : DataW.TrodAll enc Try.prog W 0 (fun _ => true) true Try.f4.params.toList args.toList ds p := hA0
  rw [Try.params4] at hA hval
  obtain ⟨v0, vs0, d0, ds0, p0, q0, hargs, rfl, rfl, h0, r0⟩ := trodAll_cons hA
  obtain ⟨v1, vs1, d1, ds1, p1, q1, rfl, rfl, rfl, h1, r1⟩ := trodAll_cons r0
  obtain ⟨rfl, rfl, rfl⟩ := trodAll_nil r1
  obtain rfl : args = #[v0, v1] := by cases args; simp_all
  obtain ⟨rfl, rfl⟩ := trodVars_none hV
  have k0 := h0
  have lt0 : ∀ x ∈ p0, x.block < W.heap.size := by obtain ⟨m, hm⟩ := k0; exact DataW.trod_lt m _ _ _ hm
  have k1 := h1
  have lt1 : ∀ x ∈ p1, x.block < W.heap.size := by obtain ⟨m, hm⟩ := k1; exact DataW.trod_lt m _ _ _ hm
  obtain ⟨f, r_f, w_f⟩ := arg_words (hval 0 22 v0 rfl rfl) h0
  obtain ⟨n, r_n, l_n, u_n⟩ := arg_int (hval 1 3 v1 rfl rfl) h1
  clear hA0 hval0
  refine (calls_of_fs (fs_FlagsAsk f w_f n u_n) (reps_cons r_f (reps_cons r_n reps_nil))).mono fun e W' ⟨he, bel⟩ => ?_
  subst he
  exact ⟨_, rfl, _, _, _, [], _, [], hW', trodAll_mk1 (shut_bool Try.underlying4 _), (trodAll_cons_mk (Below.trod laidOut (by kernel_rfl) (of_decide_eq_true (by kernel_rfl)) k0 bel lt0) (trodAll_cons_mk (Below.trod laidOut (by kernel_rfl) (of_decide_eq_true (by kernel_rfl)) k1 bel lt1) trodAll_mk0)), rfl, bel.frame _, fun h => by cases h⟩

theorem flagsAsk_holds : Rows.FlagsAskSaid :=
  OpenClaim.holds_of_wide 4 Try.f4 rfl rfl rfl rfl rfl rfl rfl ⟨rfl, rfl, rfl, rfl, rfl⟩ rfl rfl rfl rfl rfl (by kernel_rfl) Try.func4 (by kernel_rfl)
    (of_decide_eq_true (by kernel_rfl)) (by unfold Func.isWrapper; first | (rw [if_pos (by decide +kernel)]; kernel_rfl) | (rw [if_neg (by decide +kernel)]; exact ⟨rfl, rfl⟩))
    (fun os started H enc _ => flagsAsk_lifted os started H enc)
#print axioms flagsAsk_holds
set_option maxRecDepth 100000 in
theorem flagsJoin_lifted (os : Os) (started : os.Started) (H : Type) (enc : TypeId × Value → H) :
    ReturnsInHanded {} Try.checked os 5 .any (Rows.flagsJoinSpec.pre6 enc Try.prog Try.f5 Rows.flagsJoinRow.domain false) (Rows.flagsJoinSpec.post enc Try.prog Try.f5 false true false false) := by
  refine returnsInHanded_of_change (C := Try.checked) own started (by kernel_rfl) Try.func5
    (ChangeSpec.witness6 (enc := enc) (C := Try.checked) false ⟨#[], #[.slice none 0 0, .slice none 0 0, .agg #[.int .i64 0, .int .i64 0]], []⟩ 8 (by kernel_rfl) (by kernel_rfl) (by kernel_rfl) (by kernel_rfl)) ?_
  intro W base args ds gs before hval0 hW hcnd _
  have hval : ∀ (j : Nat) t v, Try.f5.params[j]? = some t → args[j]? = some v → Value.okWide Try.prog W .any base t v := hval0
  have hW' := hW
  obtain ⟨p, q, hA0, hV, rfl, hfz, hnd⟩ := hW
  have hA : DataW.TrodAll enc Try.prog W 0 (fun _ => true) true Try.f5.params.toList args.toList ds p := hA0
  rw [Try.params5] at hA hval
  obtain ⟨v0, vs0, d0, ds0, p0, q0, hargs, rfl, rfl, h0, r0⟩ := trodAll_cons hA
  obtain ⟨v1, vs1, d1, ds1, p1, q1, rfl, rfl, rfl, h1, r1⟩ := trodAll_cons r0
  obtain ⟨v2, vs2, d2, ds2, p2, q2, rfl, rfl, rfl, h2, r2⟩ := trodAll_cons r1
  obtain ⟨rfl, rfl, rfl⟩ := trodAll_nil r2
  obtain rfl : args = #[v0, v1, v2] := by cases args; simp_all
  obtain ⟨rfl, rfl⟩ := trodVars_none hV
  have k0 := h0
  have lt0 : ∀ x ∈ p0, x.block < W.heap.size := by obtain ⟨m, hm⟩ := k0; exact DataW.trod_lt m _ _ _ hm
  have k1 := h1
  have lt1 : ∀ x ∈ p1, x.block < W.heap.size := by obtain ⟨m, hm⟩ := k1; exact DataW.trod_lt m _ _ _ hm
  have k2 := h2
  have lt2 : ∀ x ∈ p2, x.block < W.heap.size := by obtain ⟨m, hm⟩ := k2; exact DataW.trod_lt m _ _ _ hm
  obtain ⟨a, r_a, w_a⟩ := arg_words (hval 0 22 v0 rfl rfl) h0
  obtain ⟨b, r_b, w_b⟩ := arg_words (hval 1 22 v1 rfl rfl) h1
  obtain ⟨n0, n1, r_n, ⟨l0_n, u0_n⟩, l1_n, u1_n⟩ := arg_int2 (hval 2 37 v2 rfl rfl) h2
  clear hA0 hval0
  refine (calls_of_fs (fs_FlagsJoin a b w_a w_b n0 n1 l0_n u0_n l1_n u1_n) (reps_cons r_a (reps_cons r_b (reps_cons r_n reps_nil)))).mono fun e W' ⟨he, bel⟩ => ?_
  subst he
  exact ⟨_, rfl, _, _, _, [], _, [], hW', trodAll_mk1 (shut_bool Try.underlying4 _), (trodAll_cons_mk (Below.trod laidOut (by kernel_rfl) (of_decide_eq_true (by kernel_rfl)) k0 bel lt0) (trodAll_cons_mk (Below.trod laidOut (by kernel_rfl) (of_decide_eq_true (by kernel_rfl)) k1 bel lt1) (trodAll_cons_mk (Below.trod laidOut (by kernel_rfl) (of_decide_eq_true (by kernel_rfl)) k2 bel lt2) trodAll_mk0))), rfl, bel.frame _, fun h => by cases h⟩

theorem flagsJoin_holds : Rows.FlagsJoinSaid :=
  OpenClaim.holds_of_wide 5 Try.f5 rfl rfl rfl rfl rfl rfl rfl ⟨rfl, rfl, rfl, rfl, rfl⟩ rfl rfl rfl rfl rfl (by kernel_rfl) Try.func5 (by kernel_rfl)
    (of_decide_eq_true (by kernel_rfl)) (by unfold Func.isWrapper; first | (rw [if_pos (by decide +kernel)]; kernel_rfl) | (rw [if_neg (by decide +kernel)]; exact ⟨rfl, rfl⟩))
    (fun os started H enc _ => flagsJoin_lifted os started H enc)
#print axioms flagsJoin_holds
set_option maxRecDepth 100000 in
theorem flagsRanks_lifted (os : Os) (started : os.Started) (H : Type) (enc : TypeId × Value → H) :
    ReturnsInHanded {} Try.checked os 6 .any (Rows.flagsRanksSpec.pre6 enc Try.prog Try.f6 Rows.flagsRanksRow.domain false) (Rows.flagsRanksSpec.post enc Try.prog Try.f6 false true false false) := by
  refine returnsInHanded_of_change (C := Try.checked) own started (by kernel_rfl) Try.func6
    (ChangeSpec.witness6 (enc := enc) (C := Try.checked) false ⟨#[], #[.slice none 0 0], []⟩ 8 (by kernel_rfl) (by kernel_rfl) (by kernel_rfl) (by kernel_rfl)) ?_
  intro W base args ds gs before hval0 hW hcnd _
  have hval : ∀ (j : Nat) t v, Try.f6.params[j]? = some t → args[j]? = some v → Value.okWide Try.prog W .any base t v := hval0
  have hW' := hW
  obtain ⟨p, q, hA0, hV, rfl, hfz, hnd⟩ := hW
  have hA : DataW.TrodAll enc Try.prog W 0 (fun _ => true) true Try.f6.params.toList args.toList ds p := hA0
  rw [Try.params6] at hA hval
  obtain ⟨v0, vs0, d0, ds0, p0, q0, hargs, rfl, rfl, h0, r0⟩ := trodAll_cons hA
  obtain ⟨rfl, rfl, rfl⟩ := trodAll_nil r0
  obtain rfl : args = #[v0] := by cases args; simp_all
  obtain ⟨rfl, rfl⟩ := trodVars_none hV
  have k0 := h0
  have lt0 : ∀ x ∈ p0, x.block < W.heap.size := by obtain ⟨m, hm⟩ := k0; exact DataW.trod_lt m _ _ _ hm
  obtain ⟨f, r_f, w_f⟩ := arg_words (hval 0 22 v0 rfl rfl) h0
  clear hA0 hval0
  refine (calls_of_fs (fs_FlagsRanks f w_f) (reps_cons r_f reps_nil)).mono fun e W' ⟨he, bel⟩ => ?_
  subst he
  exact ⟨_, rfl, _, _, _, [], _, [], hW', trodAll_mk1 (shut_bool Try.underlying4 _), (trodAll_cons_mk (Below.trod laidOut (by kernel_rfl) (of_decide_eq_true (by kernel_rfl)) k0 bel lt0) trodAll_mk0), rfl, bel.frame _, fun h => by cases h⟩

theorem flagsRanks_holds : Rows.FlagsRanksSaid :=
  OpenClaim.holds_of_wide 6 Try.f6 rfl rfl rfl rfl rfl rfl rfl ⟨rfl, rfl, rfl, rfl, rfl⟩ rfl rfl rfl rfl rfl (by kernel_rfl) Try.func6 (by kernel_rfl)
    (of_decide_eq_true (by kernel_rfl)) (by unfold Func.isWrapper; first | (rw [if_pos (by decide +kernel)]; kernel_rfl) | (rw [if_neg (by decide +kernel)]; exact ⟨rfl, rfl⟩))
    (fun os started H enc _ => flagsRanks_lifted os started H enc)
#print axioms flagsRanks_holds
set_option maxRecDepth 100000 in
theorem flagsSets_lifted (os : Os) (started : os.Started) (H : Type) (enc : TypeId × Value → H) :
    ReturnsInHanded {} Try.checked os 7 .any (Rows.flagsSetsSpec.pre6 enc Try.prog Try.f7 Rows.flagsSetsRow.domain false) (Rows.flagsSetsSpec.post enc Try.prog Try.f7 false true false false) := by
  refine returnsInHanded_of_change (C := Try.checked) own started (by kernel_rfl) Try.func7
    (ChangeSpec.witness6 (enc := enc) (C := Try.checked) false ⟨#[], #[.slice none 0 0, .slice none 0 0, .int .u16 0], []⟩ 8 (by kernel_rfl) (by kernel_rfl) (by kernel_rfl) (by kernel_rfl)) ?_
  intro W base args ds gs before hval0 hW hcnd _
  have hval : ∀ (j : Nat) t v, Try.f7.params[j]? = some t → args[j]? = some v → Value.okWide Try.prog W .any base t v := hval0
  have hW' := hW
  obtain ⟨p, q, hA0, hV, rfl, hfz, hnd⟩ := hW
  have hA : DataW.TrodAll enc Try.prog W 0 (fun _ => true) true Try.f7.params.toList args.toList ds p := hA0
  rw [Try.params7] at hA hval
  obtain ⟨v0, vs0, d0, ds0, p0, q0, hargs, rfl, rfl, h0, r0⟩ := trodAll_cons hA
  obtain ⟨v1, vs1, d1, ds1, p1, q1, rfl, rfl, rfl, h1, r1⟩ := trodAll_cons r0
  obtain ⟨v2, vs2, d2, ds2, p2, q2, rfl, rfl, rfl, h2, r2⟩ := trodAll_cons r1
  obtain ⟨rfl, rfl, rfl⟩ := trodAll_nil r2
  obtain rfl : args = #[v0, v1, v2] := by cases args; simp_all
  obtain ⟨rfl, rfl⟩ := trodVars_none hV
  have k0 := h0
  have lt0 : ∀ x ∈ p0, x.block < W.heap.size := by obtain ⟨m, hm⟩ := k0; exact DataW.trod_lt m _ _ _ hm
  have k1 := h1
  have lt1 : ∀ x ∈ p1, x.block < W.heap.size := by obtain ⟨m, hm⟩ := k1; exact DataW.trod_lt m _ _ _ hm
  have k2 := h2
  have lt2 : ∀ x ∈ p2, x.block < W.heap.size := by obtain ⟨m, hm⟩ := k2; exact DataW.trod_lt m _ _ _ hm
  obtain ⟨a, r_a, w_a⟩ := arg_words (hval 0 22 v0 rfl rfl) h0
  obtain ⟨b, r_b, w_b⟩ := arg_words (hval 1 22 v1 rfl rfl) h1
  obtain ⟨n, r_n, w_n⟩ := arg_u16 (hval 2 42 v2 rfl rfl) h2
  clear hA0 hval0
  refine (calls_of_fs (fs_FlagsSets a b w_a w_b n w_n) (reps_cons r_a (reps_cons r_b (reps_cons r_n reps_nil)))).mono fun e W' ⟨he, bel⟩ => ?_
  subst he
  exact ⟨_, rfl, _, _, _, [], _, [], hW', trodAll_mk1 (shut_bool Try.underlying4 _), (trodAll_cons_mk (Below.trod laidOut (by kernel_rfl) (of_decide_eq_true (by kernel_rfl)) k0 bel lt0) (trodAll_cons_mk (Below.trod laidOut (by kernel_rfl) (of_decide_eq_true (by kernel_rfl)) k1 bel lt1) (trodAll_cons_mk (Below.trod laidOut (by kernel_rfl) (of_decide_eq_true (by kernel_rfl)) k2 bel lt2) trodAll_mk0))), rfl, bel.frame _, fun h => by cases h⟩

theorem flagsSets_holds : Rows.FlagsSetsSaid :=
  OpenClaim.holds_of_wide 7 Try.f7 rfl rfl rfl rfl rfl rfl rfl ⟨rfl, rfl, rfl, rfl, rfl⟩ rfl rfl rfl rfl rfl (by kernel_rfl) Try.func7 (by kernel_rfl)
    (of_decide_eq_true (by kernel_rfl)) (by unfold Func.isWrapper; first | (rw [if_pos (by decide +kernel)]; kernel_rfl) | (rw [if_neg (by decide +kernel)]; exact ⟨rfl, rfl⟩))
    (fun os started H enc _ => flagsSets_lifted os started H enc)
#print axioms flagsSets_holds
set_option maxRecDepth 100000 in
theorem flagsParts_lifted (os : Os) (started : os.Started) (H : Type) (enc : TypeId × Value → H) :
    ReturnsInHanded {} Try.checked os 8 .any (Rows.flagsPartsSpec.pre6 enc Try.prog Try.f8 Rows.flagsPartsRow.domain false) (Rows.flagsPartsSpec.post enc Try.prog Try.f8 false true false false) := by
  refine returnsInHanded_of_change (C := Try.checked) own started (by kernel_rfl) Try.func8
    (ChangeSpec.witness6 (enc := enc) (C := Try.checked) false ⟨#[], #[.slice none 0 0, .agg #[.int .u16 0, .int .u16 0]], []⟩ 8 (by kernel_rfl) (by kernel_rfl) (by kernel_rfl) (by kernel_rfl)) ?_
  intro W base args ds gs before hval0 hW hcnd _
  have hval : ∀ (j : Nat) t v, Try.f8.params[j]? = some t → args[j]? = some v → Value.okWide Try.prog W .any base t v := hval0
  have hW' := hW
  obtain ⟨p, q, hA0, hV, rfl, hfz, hnd⟩ := hW
  have hA : DataW.TrodAll enc Try.prog W 0 (fun _ => true) true Try.f8.params.toList args.toList ds p := hA0
  rw [Try.params8] at hA hval
  obtain ⟨v0, vs0, d0, ds0, p0, q0, hargs, rfl, rfl, h0, r0⟩ := trodAll_cons hA
  obtain ⟨v1, vs1, d1, ds1, p1, q1, rfl, rfl, rfl, h1, r1⟩ := trodAll_cons r0
  obtain ⟨rfl, rfl, rfl⟩ := trodAll_nil r1
  obtain rfl : args = #[v0, v1] := by cases args; simp_all
  obtain ⟨rfl, rfl⟩ := trodVars_none hV
  have k0 := h0
  have lt0 : ∀ x ∈ p0, x.block < W.heap.size := by obtain ⟨m, hm⟩ := k0; exact DataW.trod_lt m _ _ _ hm
  have k1 := h1
  have lt1 : ∀ x ∈ p1, x.block < W.heap.size := by obtain ⟨m, hm⟩ := k1; exact DataW.trod_lt m _ _ _ hm
  obtain ⟨f, r_f, w_f⟩ := arg_words (hval 0 22 v0 rfl rfl) h0
  obtain ⟨n0, n1, r_n, w_n⟩ := arg_u162 (hval 1 44 v1 rfl rfl) h1
  clear hA0 hval0
  refine (calls_of_fs (fs_FlagsParts f w_f n0 n1 w_n) (reps_cons r_f (reps_cons r_n reps_nil))).mono fun e W' ⟨he, bel⟩ => ?_
  subst he
  exact ⟨_, rfl, _, _, _, [], _, [], hW', trodAll_mk1 (shut_bool Try.underlying4 _), (trodAll_cons_mk (Below.trod laidOut (by kernel_rfl) (of_decide_eq_true (by kernel_rfl)) k0 bel lt0) (trodAll_cons_mk (Below.trod laidOut (by kernel_rfl) (of_decide_eq_true (by kernel_rfl)) k1 bel lt1) trodAll_mk0)), rfl, bel.frame _, fun h => by cases h⟩

theorem flagsParts_holds : Rows.FlagsPartsSaid :=
  OpenClaim.holds_of_wide 8 Try.f8 rfl rfl rfl rfl rfl rfl rfl ⟨rfl, rfl, rfl, rfl, rfl⟩ rfl rfl rfl rfl rfl (by kernel_rfl) Try.func8 (by kernel_rfl)
    (of_decide_eq_true (by kernel_rfl)) (by unfold Func.isWrapper; first | (rw [if_pos (by decide +kernel)]; kernel_rfl) | (rw [if_neg (by decide +kernel)]; exact ⟨rfl, rfl⟩))
    (fun os started H enc _ => flagsParts_lifted os started H enc)
#print axioms flagsParts_holds
end Go.Proofs.Ytefciekodhpefaa
