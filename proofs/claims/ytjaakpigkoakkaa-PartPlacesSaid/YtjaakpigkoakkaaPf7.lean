/-
  The laws on parts: each returns true at every input that can be read, and writes nothing that was there.
-/
import Derived.Test.YtjaakpigkoakkaaG4
namespace Go.Proofs.Ytjaakpigkoakkaa
open Go.ChangeShapes Go.WideShapes Go.ChangeAt Go.RowKit
set_option maxRecDepth 100000
theorem own : ownKnob Try.prog.godebug = none := by kernel_rfl
theorem laidOut : laidOutB Try.prog = true := by kernel_rfl
theorem calls_of_fs {P : Program} {f : FuncId} {args : List SV} (h : FS P f args (.bool true)) {w : World} {vs : List Value} (hr : Reps w nob [] args vs) : Calls P f vs.toArray w fun e w' => e = .returned (.bool true) ∧ Below w.heap.size w w' := by
  refine (h.2 w nob vs (fun _ h => h.elim) hr.1 hr.2).mono ?_
  rintro e w' ⟨v, rfl, hb, hv⟩
  rw [rep_bool hv]
  exact ⟨rfl, hb⟩
theorem reps_nil {w : World} {A : Nat → Prop} {β : List (Option Nat)} : Reps w A β [] [] := ⟨rfl, fun i f v h => by simp at h⟩
theorem reps_cons {w : World} {A : Nat → Prop} {β : List (Option Nat)} {x : SV} {v : Value} {xs : List SV} {vs : List Value} (h : Rep w A β x v) (k : Reps w A β xs vs) : Reps w A β (x :: xs) (v :: vs) :=
  ⟨by simp [k.1], fun i f u hf hu => by
    cases i with
    | zero => simp at hf hu; subst hf hu; exact h
    | succ i => exact k.2 i f u (by simpa using hf) (by simpa using hu)⟩
section
variable {H : Type} {enc : TypeId × Value → H} {W : World} {base : Nat} {v : Value} {d : DataW H} {p : List MemPlace}
theorem arg_int (hv : Value.okWide Try.prog W .any base 3 v) (h : DataW.Trod enc Try.prog W 0 (fun _ => true) true 3 v d p) : ∃ n, Rep W nob [] (.int .i64 n) v ∧ I64 n := by
  obtain ⟨n, rfl⟩ := okWide_int Try.underlying3 hv
  obtain ⟨m, ho⟩ := opened_val h
  obtain ⟨x, hx, hw⟩ := opened_int Try.underlying3 ho
  simp [Value.cells] at hx
  subst hx
  exact ⟨n, .int _ _ _, i64_of_wf hw⟩
theorem arg_u8 (hv : Value.okWide Try.prog W .any base 5 v) (h : DataW.Trod enc Try.prog W 0 (fun _ => true) true 5 v d p) : ∃ n : Nat, Rep W nob [] (.int .u8 (n : Int)) v ∧ n < 256 := by
  obtain ⟨n, rfl⟩ := okWide_int Try.underlying5 hv
  obtain ⟨m, ho⟩ := opened_val h
  obtain ⟨x, hx, hw⟩ := opened_int Try.underlying5 ho
  simp [Value.cells] at hx
  subst hx
  have := u8_of_wf hw
  obtain ⟨k, rfl⟩ := Int.eq_ofNat_of_zero_le this.1
  exact ⟨k, .int _ _ _, by omega⟩
theorem arg_u16 (hv : Value.okWide Try.prog W .any base 29 v) (h : DataW.Trod enc Try.prog W 0 (fun _ => true) true 29 v d p) : ∃ n : Nat, Rep W nob [] (.int .u16 (n : Int)) v ∧ n < 65536 := by
  obtain ⟨n, rfl⟩ := okWide_int Try.underlying29 hv
  obtain ⟨m, ho⟩ := opened_val h
  obtain ⟨x, hx, hw⟩ := opened_int Try.underlying29 ho
  simp [Value.cells] at hx
  subst hx
  have := u16_of_wf hw
  obtain ⟨k, rfl⟩ := Int.eq_ofNat_of_zero_le this.1
  exact ⟨k, .int _ _ _, by omega⟩
end
end Go.Proofs.Ytjaakpigkoakkaa
