/- Sets of places: how many. -/
import Derived.Test.YtefciekodhpefaaFa
namespace Go.Proofs.Ytefciekodhpefaa
open Go.RowKit
attribute [local irreducible] FS FO IT HS

/-- How many bits are set. -/
def pc (v : Nat) : Nat := if v = 0 then 0 else v % 2 + pc (v / 2)
termination_by v
decreasing_by omega

theorem pc_zero : pc 0 = 0 := by unfold pc; simp
theorem pc_step (v : Nat) : pc v = v % 2 + pc (v / 2) := by
  by_cases h : v = 0
  · subst h; simp [pc_zero]
  · rw [pc, if_neg h]

theorem low_off : ∀ (v : Nat), 0 < v → pc (v &&& (v - 1)) + 1 = pc v ∧ v &&& (v - 1) < v := by
  intro v
  induction v using Nat.strongRecOn with
  | _ v ih =>
    intro hv
    have hdm : v = 2 * (v / 2) + v % 2 := by omega
    rcases Nat.mod_two_eq_zero_or_one v with h0 | h1
    · have hu : 0 < v / 2 := by omega
      obtain ⟨i1, i2⟩ := ih (v / 2) (by omega) hu
      have e : v &&& (v - 1) = 2 * (v / 2 &&& (v / 2 - 1)) := by
        apply Nat.eq_of_testBit_eq
        intro j
        cases j with
        | zero => simp [Nat.testBit_zero, h0]
        | succ j => rw [Nat.testBit_succ, Nat.testBit_succ, Nat.and_div_two, show (v - 1) / 2 = v / 2 - 1 by omega, Nat.mul_div_cancel_left _ (by omega)]
      rw [e]
      refine ⟨?_, by omega⟩
      rw [pc_step (2 * _), pc_step v]
      have : 2 * (v / 2 &&& (v / 2 - 1)) / 2 = v / 2 &&& (v / 2 - 1) := by omega
      rw [this]; omega
    · have e : v &&& (v - 1) = 2 * (v / 2) := by
        apply Nat.eq_of_testBit_eq
        intro j
        cases j with
        | zero => simp [Nat.testBit_zero]; omega
        | succ j => rw [Nat.testBit_succ, Nat.testBit_succ, Nat.and_div_two, show (v - 1) / 2 = v / 2 by omega, Nat.mul_div_cancel_left _ (by omega), Nat.and_self]
      rw [e]
      refine ⟨?_, by omega⟩
      rw [pc_step (2 * _), pc_step v]
      have : 2 * (v / 2) / 2 = v / 2 := by omega
      rw [this]; omega

theorem pc_le (k : Nat) : ∀ v, v < 2 ^ k → pc v ≤ k := by
  induction k with
  | zero => intro v hv; have : v = 0 := by simpa using hv
            subst this; simp [pc_zero]
  | succ k ih =>
    intro v hv
    have := ih (v / 2) (by rw [Nat.pow_succ] at hv; omega)
    rw [pc_step]; omega

def ir_flags_ones : IR :=
(.seq
 (.reg (⟨(some 2), .mv (.c (.int .i64 0)), none⟩ ::
   []))
 (.seq
  (.reg (⟨(some 3), .mv (.c (.int .i64 0)), none⟩ ::
    []))
  (.seq
   .skip
   (.seq
    (.block 0
     (.loop
      (.block 1
       (.seq
        (.seq
         (.reg (⟨(some 4), .mv (.t 0), none⟩ ::
           ⟨(some 5), .bin .eql (.t 4) (.c (.int .u64 0)), none⟩ ::
           []))
         (.cond (.t 5)
          (.exit 0)
          .skip))
        (.seq
         (.reg (⟨(some 6), .mv (.t 0), none⟩ ::
           ⟨(some 7), .mv (.t 0), none⟩ ::
           ⟨(some 8), .bin .sub (.t 7) (.c (.int .u64 1)), none⟩ ::
           ⟨(some 9), .bin .and (.t 6) (.t 8), none⟩ ::
           ⟨(some 0), .mv (.t 9), none⟩ ::
           []))
         (.reg (⟨(some 10), .mv (.t 3), none⟩ ::
           ⟨(some 11), .bin .add (.t 10) (.c (.int .i64 1)), none⟩ ::
           ⟨(some 3), .mv (.t 11), none⟩ ::
           [])))))))
    (.seq
     (.reg (⟨(some 12), .mv (.t 3), none⟩ ::
       ⟨(some 2), .mv (.t 12), none⟩ ::
       []))
     .ret)))))
theorem cd_flags_ones : Code1 Try.prog 53 13 ir_flags_ones [.t 2] := ⟨Try.call53, _, _, Try.func53, rfl, by kernel_rfl, by kernel_rfl, by kernel_rfl, by kernel_rfl⟩

theorem fs_ones (v : Nat) (hv : v < 18446744073709551616) : FS Try.prog 53 [.int .u64 (v : Int)] (.int .i64 (pc v : Int)) := by
  refine fs_of_cvc mixed cd_flags_ones (by simp) ?_
  refine ⟨Nat × Nat, fun p => p.1 < 18446744073709551616 ∧ p.2 + pc p.1 = pc v, fun p => [(0, .int .u64 (p.1 : Int)), (3, .int .i64 (p.2 : Int))], fun _ => [], fun _ => none, fun p => p.1, ⟨(v, 0), ⟨hv, by simp⟩, ⟨rfl, rfl, trivial⟩, trivial, rfl⟩, ?_⟩
  rintro ⟨x, n⟩ ⟨hx, hn⟩
  have hle := pc_le 64 v (by simpa using hv)
  refine And.intro rfl (Br.dec (fun h => ?_) (fun h => ?_))
  · have hx0 : x = 0 := by simpa using h
    subst hx0
    rw [pc_zero] at hn
    show SV.int _ _ = SV.int _ _
    congr 1
    simp at hn; omega
  · have hx0 : 0 < x := by simp at h; omega
    obtain ⟨h1, h2⟩ := low_off x hx0
    refine And.intro rfl ⟨_, Or.inl ⟨⟨?_, ?_⟩, rfl⟩, rfl, rfl, _, Or.inl ⟨⟨?_, ?_⟩, rfl⟩, ?_⟩
    · show (0 : Int) ≤ x - 1; omega
    · show (x : Int) - 1 ≤ _; omega
    · show _ ≤ (n : Int) + 1; omega
    · show (n : Int) + 1 ≤ _; simp at hn; omega
    · refine ⟨(x &&& (x - 1), n + 1), ⟨by simp; omega, by simp at hn ⊢; omega⟩, h2, ⟨?_, ?_, trivial⟩, trivial, rfl⟩
      · show SV.int .u64 (bAnd .u64 (x : Int) ((x : Int) - 1)) = SV.int .u64 ((x &&& (x - 1) : Nat) : Int)
        rw [← bAnd_u64 hx (by omega)]
        congr 2; omega
      · show SV.int .i64 ((n : Int) + 1) = SV.int .i64 ((n + 1 : Nat) : Int)
        simp

/-- How many places are in it. -/
def cnt (ws : List Nat) : Nat := (ws.map pc).sum
theorem cnt_take {ws : List Nat} {k v : Nat} (hv : ws[k]? = some v) : cnt (ws.take (k + 1)) = cnt (ws.take k) + pc v := by
  have hk := (List.getElem?_eq_some_iff.1 hv).1
  have he := (List.getElem?_eq_some_iff.1 hv).2
  rw [cnt, cnt, List.take_succ_eq_append_getElem hk, he]
  simp
theorem cnt_le : ∀ (ws : List Nat), Wd ws → cnt ws ≤ 64 * ws.length
  | [], _ => by simp [cnt]
  | v :: ws, h => by
    have h1 := pc_le 64 v (by simpa using h v (by simp))
    have h2 := cnt_le ws fun x hx => h x (by simp [hx])
    simp only [cnt, List.map_cons, List.sum_cons, List.length_cons] at h2 ⊢
    omega
theorem wd_take {ws : List Nat} (h : Wd ws) (k : Nat) : Wd (ws.take k) := fun x hx => h x (List.mem_of_mem_take hx)

def ir_flags_Count : IR :=
(.seq
 (.reg (⟨(some 2), .mv (.c (.int .i64 0)), none⟩ ::
   []))
 (.seq
  (.reg (⟨(some 3), .mv (.c (.int .i64 0)), none⟩ ::
    []))
  (.seq
   (.seq
    (.reg (⟨(some 6), .mv (.t 0), none⟩ ::
      ⟨(some 7), .ln (.t 6), none⟩ ::
      ⟨(some 8), .mv (.c (.int .i64 0)), none⟩ ::
      []))
    (.block 0
     (.loop
      (.seq
       (.reg (⟨(some 9), .bin .lss (.t 8) (.t 7), none⟩ ::
         []))
       (.seq
        (.cond (.t 9)
         .skip
         (.exit 0))
        (.seq
         (.block 1
          (.seq
           (.reg (⟨(some 10), .ia 1 (.t 6) (.t 8), none⟩ ::
             ⟨(some 11), .ld 1 false (.t 10), none⟩ ::
             ⟨(some 5), .mv (.t 11), none⟩ ::
             []))
           (.reg (⟨(some 12), .mv (.t 3), none⟩ ::
             ⟨(some 13), .mv (.t 5), none⟩ ::
             ⟨(some 14), .call (.c (.fn 53 [])) [(.t 13)], none⟩ ::
             ⟨(some 15), .bin .add (.t 12) (.t 14), none⟩ ::
             ⟨(some 3), .mv (.t 15), none⟩ ::
             []))))
         (.reg (⟨(some 16), .bin .add (.t 8) (.c (.int .i64 1)), none⟩ ::
           ⟨(some 8), .mv (.t 16), none⟩ ::
           []))))))))
   (.seq
    (.reg (⟨(some 17), .mv (.t 3), none⟩ ::
      ⟨(some 2), .mv (.t 17), none⟩ ::
      []))
    .ret))))
theorem cd_flags_Count : Code1 Try.prog 26 18 ir_flags_Count [.t 2] := ⟨Try.call26, _, _, Try.func26, rfl, by kernel_rfl, by kernel_rfl, by kernel_rfl, by kernel_rfl⟩

theorem fs_Count (ws : List Nat) (hw : Wd ws) (hl : ws.length ≤ 1000000) : FS Try.prog 26 [U ws] (.int .i64 (cnt ws : Int)) := by
  refine fs_of_cvc mixed cd_flags_Count (by simp) ?_
  refine ⟨Nat, fun k => k ≤ ws.length, fun k => [(3, .int .i64 (cnt (ws.take k) : Int)), (8, .int .i64 (k : Int)), (6, U ws), (7, .int .i64 (ws.length : Int))], fun _ => [], fun _ => none, fun k => ws.length - k, ⟨0, by simp, ⟨rfl, rfl, rfl, ?_, trivial⟩, trivial, rfl⟩, ?_⟩
  · show SV.int .i64 ((uw ws).length : Int) = _
    rw [U_len]
  intro k hk
  have hc := cnt_le _ (wd_take hw k)
  have htl : (ws.take k).length ≤ k := by simp; omega
  refine And.intro rfl (Br.dec (fun h => ?_) (fun h => ?_))
  · have hk' : k < ws.length := by omega
    refine ⟨rfl, by omega, by rw [U_len]; omega, fun x hx => ?_⟩
    obtain ⟨v, hv, rfl⟩ := U_get hx
    have hv' : ws[k]? = some v := hv
    refine Or.inl ⟨rfl, _, fs_ones v (hw v (List.mem_of_getElem? hv)), ?_⟩
    have hp := pc_le 64 v (by simpa using hw v (List.mem_of_getElem? hv))
    refine And.intro rfl ⟨_, Or.inl ⟨⟨?_, ?_⟩, rfl⟩, rfl, _, Or.inl ⟨⟨?_, ?_⟩, rfl⟩, k + 1, hk', (show ws.length - (k + 1) < ws.length - k by omega), ⟨?_, ?_, rfl, rfl, trivial⟩, trivial, rfl⟩
    · show _ ≤ (cnt (ws.take k) : Int) + (pc v : Int); omega
    · show (cnt (ws.take k) : Int) + (pc v : Int) ≤ _; omega
    · show _ ≤ (k : Int) + 1; omega
    · show (k : Int) + 1 ≤ _; omega
    · show SV.int .i64 ((cnt (ws.take k) : Int) + (pc v : Int)) = SV.int .i64 (cnt (ws.take (k + 1)) : Int)
      rw [cnt_take hv']; simp
    · show SV.int .i64 ((k : Int) + 1) = SV.int .i64 ((k + 1 : Nat) : Int)
      simp
  · have hk' : k = ws.length := by omega
    show SV.int _ _ = SV.int _ _
    rw [hk', List.take_length]

end Go.Proofs.Ytefciekodhpefaa
