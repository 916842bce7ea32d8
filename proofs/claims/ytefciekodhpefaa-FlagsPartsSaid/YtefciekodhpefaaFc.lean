/- Sets of places: one after the other. -/
import Derived.Test.YtefciekodhpefaaFb
namespace Go.Proofs.Ytefciekodhpefaa
open Go.RowKit
attribute [local irreducible] FS FO IT HS

/-- The places of a word whose first one is i. -/
def wbits (v i : Nat) : List Nat := if v = 0 then [] else (if v % 2 = 1 then [i] else []) ++ wbits (v / 2) (i + 1)
termination_by v
decreasing_by omega
theorem wbits_zero (i : Nat) : wbits 0 i = [] := by unfold wbits; simp
theorem wbits_step {v : Nat} (hv : 0 < v) (i : Nat) : wbits v i = (if v % 2 = 1 then [i] else []) ++ wbits (v / 2) (i + 1) := by
  rw [wbits, if_neg (by omega)]
def bitsF : List Nat → Nat → List Nat
  | [], _ => []
  | v :: ws, k => wbits v (64 * k) ++ bitsF ws (k + 1)
/-- The places in it. -/
def bits (ws : List Nat) : List Nat := bitsF ws 0
def ints (l : List Nat) : List (List SV) := l.map fun (b : Nat) => [.int .i64 (b : Int)]

theorem ints_len (l : List Nat) : (ints l).length = l.length := by simp [ints]
theorem ints_get {l : List Nat} {i b : Nat} {r : List Nat} (h : l.drop i = b :: r) : (ints l)[i]? = some [.int .i64 (b : Int)] := by
  have : l[i]? = some b := by
    have := congrArg (fun x => x[0]?) h
    simpa using this
  simp [ints, this]
theorem drop_next {l : List Nat} {i b : Nat} {r : List Nat} (h : l.drop i = b :: r) : l.drop (i + 1) = r ∧ i + 1 ≤ l.length := by
  have h1 : l.drop (i + 1) = (l.drop i).drop 1 := by simp
  refine ⟨by rw [h1, h]; rfl, ?_⟩
  have := congrArg List.length h
  simp at this; omega

def ir_flags_each : IR :=
(.seq
 (.reg (⟨(some 1), .bx (.t 0), none⟩ ::
   ⟨(some 2), .mv (.c (.raw .nilFunc)), none⟩ ::
   []))
 (.seq
  (.reg (⟨(some 3), .fn 67 [(.t 1)], none⟩ ::
    ⟨(some 2), .mv (.t 3), none⟩ ::
    []))
  .ret))
theorem cd_flags_each : Code1 Try.prog 54 4 ir_flags_each [.t 2] := ⟨Try.call54, _, _, Try.func54, rfl, by kernel_rfl, by kernel_rfl, by kernel_rfl, by kernel_rfl⟩

def ir_flags_each_1 : IR :=
(.seq
 (.reg (⟨(some 6), .ld 1 false (.t 1), none⟩ ::
   ⟨(some 7), .ln (.t 6), none⟩ ::
   ⟨(some 8), .mv (.c (.int .i64 0)), none⟩ ::
   []))
 (.block 0
  (.loop
   (.seq
    (.reg (⟨(some 9), .bin .lss (.t 8) (.t 7), none⟩ ::
      []))
    (.seq
     (.cond (.t 9)
      .skip
      (.exit 0))
     (.seq
      (.block 1
       (.seq
        (.reg (⟨(some 10), .mv (.t 8), none⟩ ::
          ⟨(some 11), .ia 1 (.t 6) (.t 8), none⟩ ::
          ⟨(some 12), .ld 1 false (.t 11), none⟩ ::
          ⟨(some 3), .mv (.t 10), none⟩ ::
          ⟨(some 4), .mv (.t 12), none⟩ ::
          []))
        (.seq
         (.reg (⟨(some 13), .mv (.t 3), none⟩ ::
           ⟨(some 14), .bin .shl (.t 13) (.c (.int .u64 6)), none⟩ ::
           ⟨(some 5), .mv (.t 14), none⟩ ::
           []))
         (.block 2
          (.loop
           (.seq
            (.seq
             (.reg (⟨(some 15), .mv (.t 4), none⟩ ::
               ⟨(some 16), .bin .neq (.t 15) (.c (.int .u64 0)), none⟩ ::
               []))
             (.cond (.t 16)
              .skip
              (.exit 2)))
            (.seq
             (.block 3
              (.seq
               (.reg (⟨(some 21), .mv (.t 4), none⟩ ::
                 ⟨(some 22), .bin .and (.t 21) (.c (.int .u64 1)), none⟩ ::
                 ⟨(some 23), .bin .eql (.t 22) (.c (.int .u64 1)), none⟩ ::
                 ⟨(some 24), .mv (.t 23), none⟩ ::
                 ⟨(some 25), .mv (.t 0), some (24, true)⟩ ::
                 ⟨(some 26), .mv (.t 5), some (24, true)⟩ ::
                 ⟨(some 27), .call (.t 25) [(.t 26)], some (24, true)⟩ ::
                 ⟨(some 28), .un .not (.t 27), some (24, true)⟩ ::
                 ⟨(some 29), .pick (.t 24) (.t 28) (.c (.bool false)), none⟩ ::
                 []))
               (.cond (.t 29)
                .ret
                .skip)))
             (.reg (⟨(some 17), .mv (.t 4), none⟩ ::
               ⟨(some 18), .bin .shr (.t 17) (.c (.int .u64 1)), none⟩ ::
               ⟨(some 19), .mv (.t 5), none⟩ ::
               ⟨(some 20), .bin .add (.t 19) (.c (.int .i64 1)), none⟩ ::
               ⟨(some 4), .mv (.t 18), none⟩ ::
               ⟨(some 5), .mv (.t 20), none⟩ ::
               [])))))))))
      (.reg (⟨(some 30), .bin .add (.t 8) (.c (.int .i64 1)), none⟩ ::
        ⟨(some 8), .mv (.t 30), none⟩ ::
        []))))))))
theorem cd_flags_each_1 : Code1 Try.prog 67 31 ir_flags_each_1 [] := ⟨Try.call67, _, _, Try.func67, rfl, by kernel_rfl, by kernel_rfl, by kernel_rfl, by kernel_rfl⟩

theorem fs_each (ws : List Nat) : FS Try.prog 54 [U ws] (.fn 67 [.box [U ws] 0]) := by
  refine fs_of_cvc mixed cd_flags_each (by simp) ?_
  exact rfl

theorem it_each (ws : List Nat) (hw : Wd ws) (hl : ws.length ≤ 1000000) : IT Try.prog 67 [.box [U ws] 0] [] (ints (bits ws)) := by
  refine it_of_cvc mixed cd_flags_each_1 (ks := []) (by simp) fun l => ?_
  refine ⟨Nat × Nat, fun p => p.1 ≤ ws.length ∧ (bits ws).drop p.2 = bitsF (ws.drop p.1) p.1 ∧ p.2 ≤ (bits ws).length, fun p => [(0, .raw (.func (.yield l) #[] #[])), (6, U ws), (7, .int .i64 (ws.length : Int)), (8, .int .i64 (p.1 : Int))], fun _ => [], fun p => some p.2, fun p => ws.length - p.1,
    ⟨(0, 0), ⟨by simp, by simp [bits], by simp⟩, ⟨rfl, rfl, ?_, rfl, trivial⟩, trivial, rfl⟩, ?_⟩
  · show SV.int .i64 ((uw ws).length : Int) = _
    rw [U_len]
  rintro ⟨k, i⟩ ⟨hk, hd, hi⟩
  simp only at hk hd hi
  refine And.intro rfl (Br.dec (fun h => ?_) (fun h => ?_))
  · have hk' : k < ws.length := by simp only at h; omega
    refine ⟨rfl, by simp, by rw [U_len]; simp only at h ⊢; omega, fun x hx => ?_⟩
    obtain ⟨v, hv, rfl⟩ := U_get hx
    have hv' : ws[k]? = some v := hv
    have hvw := hw v (List.mem_of_getElem? hv)
    have hdr : ws.drop k = v :: ws.drop (k + 1) := by
      rw [List.drop_eq_getElem_cons hk', (List.getElem?_eq_some_iff.1 hv').2]
    rw [hdr, bitsF] at hd
    refine And.intro (by omega) ⟨((64 * k : Nat) : Int), Or.inl ⟨⟨?_, ?_⟩, ?_⟩, ?_⟩
    · show _ ≤ (k : Int) * 64; omega
    · show (k : Int) * 64 ≤ _; omega
    · show ((64 * k : Nat) : Int) = (k : Int) * 64; omega
    refine ⟨Nat × Nat × Nat, fun p => ∃ b, b ≤ 64 ∧ p.1 < 2 ^ b ∧ p.2.1 + b = 64 * k + 64 ∧ (bits ws).drop p.2.2 = wbits p.1 p.2.1 ++ bitsF (ws.drop (k + 1)) (k + 1) ∧ p.2.2 ≤ (bits ws).length,
      fun p => [(0, .raw (.func (.yield l) #[] #[])), (6, U ws), (7, .int .i64 (ws.length : Int)), (8, .int .i64 (k : Int)), (4, .int .u64 (p.1 : Int)), (5, .int .i64 (p.2.1 : Int))], fun _ => [], fun p => some p.2.2, fun p => p.1,
      ⟨(v, 64 * k, i), ⟨64, by omega, by simpa using hvw, rfl, hd, hi⟩, ⟨rfl, rfl, rfl, rfl, rfl, rfl, trivial⟩, trivial, rfl⟩, ?_⟩
    rintro ⟨x, j, i⟩ ⟨b, hb, hxb, hjb, hd, hi⟩
    simp only at hxb hjb hd hi
    have hx64 : x < 18446744073709551616 := Nat.lt_of_lt_of_le hxb (by
      have := Nat.pow_le_pow_right (n := 2) (by omega) hb
      simpa using this)
    have e1 : bAnd .u64 (x : Int) 1 = ((x % 2 : Nat) : Int) := by
      have := bAnd_u64 (x := x) (y := 1) hx64 (by omega)
      rw [show x &&& 1 = x % 2 from and_mask x 1] at this
      exact this
    refine And.intro rfl (Br.dec (fun h => ?_) (fun h => ?_))
    · have hx0 : 0 < x := by simp at h; omega
      rw [wbits_step hx0] at hd
      have hb0 : 0 < b := by
        rcases Nat.eq_zero_or_pos b with h | h
        · subst h; simp at hxb; omega
        · exact h
      have hxb' : x / 2 < 2 ^ (b - 1) := by
        have : 2 ^ b = 2 * 2 ^ (b - 1) := by rw [← Nat.pow_succ', Nat.succ_eq_add_one, Nat.sub_add_cancel hb0]
        omega
      have e2 : (x : Int) / 2 ^ (min (1 : Int).toNat IntKind.u64.bits) = ((x / 2 : Nat) : Int) := by
        show (x : Int) / 2 ^ 1 = _
        omega
      -- the next place
      have next : ∀ (i' : Nat), (bits ws).drop i' = wbits (x / 2) (j + 1) ++ bitsF (ws.drop (k + 1)) (k + 1) → i' ≤ (bits ws).length → ∃ q : Nat × Nat × Nat, (∃ b, b ≤ 64 ∧ q.1 < 2 ^ b ∧ q.2.1 + b = 64 * k + 64 ∧ (bits ws).drop q.2.2 = wbits q.1 q.2.1 ++ bitsF (ws.drop (k + 1)) (k + 1) ∧ q.2.2 ≤ (bits ws).length) ∧ q.1 < x ∧
          SV.int .u64 ((x : Int) / 2 ^ (min (1 : Int).toNat IntKind.u64.bits)) = .int .u64 (q.1 : Int) ∧ SV.int .i64 ((j : Int) + 1) = .int .i64 (q.2.1 : Int) ∧ some i' = some q.2.2 := fun i' h1 h2 =>
        ⟨(x / 2, j + 1, i'), ⟨b - 1, by omega, hxb', by simp only; omega, h1, h2⟩, by simp only; omega, by rw [e2], by simp, rfl⟩
      refine And.intro rfl (And.intro rfl (Br.dec (fun h => ?_) (fun h => ?_)))
      · have h1 : x % 2 = 1 := by rw [e1] at h; omega
        rw [if_pos h1] at hd
        obtain ⟨h3, h4⟩ := drop_next hd
        refine Br.tt (Br.tt ⟨rfl, rfl, rfl, i, rfl, ints_get hd, ?_, ?_⟩)
        · refine Br.tt (Br.ff ?_)
          refine And.intro (by omega) (And.intro rfl ⟨_, Or.inl ⟨⟨?_, ?_⟩, rfl⟩, ?_⟩)
          · show _ ≤ (j : Int) + 1; omega
          · show (j : Int) + 1 ≤ _; omega
          obtain ⟨q, q1, q2, q3, q4, q5⟩ := next (i + 1) h3 h4
          exact ⟨q, q1, q2, ⟨rfl, rfl, rfl, rfl, q3, q4, trivial⟩, trivial, q5⟩
        · refine Br.tt (Br.tt ?_)
          exact Or.inr rfl
      · have h1 : ¬ x % 2 = 1 := by rw [e1] at h; omega
        rw [if_neg h1] at hd
        refine Br.ff (Br.ff (Br.ff (Br.ff ?_)))
        refine And.intro (by omega) (And.intro rfl ⟨_, Or.inl ⟨⟨?_, ?_⟩, rfl⟩, ?_⟩)
        · show _ ≤ (j : Int) + 1; omega
        · show (j : Int) + 1 ≤ _; omega
        obtain ⟨q, q1, q2, q3, q4, q5⟩ := next i (by simpa using hd) hi
        exact ⟨q, q1, q2, ⟨rfl, rfl, rfl, rfl, q3, q4, trivial⟩, trivial, q5⟩
    · have hx0 : x = 0 := by simp at h; omega
      subst hx0
      rw [wbits_zero] at hd
      refine And.intro rfl ⟨_, Or.inl ⟨⟨?_, ?_⟩, rfl⟩, (k + 1, i), ⟨hk', by simpa using hd, hi⟩, (show ws.length - (k + 1) < ws.length - k by omega), ⟨rfl, rfl, rfl, ?_, trivial⟩, trivial, rfl⟩
      · show _ ≤ (k : Int) + 1; omega
      · show (k : Int) + 1 ≤ _; omega
      · show SV.int .i64 ((k : Int) + 1) = SV.int .i64 ((k + 1 : Nat) : Int)
        simp
  · have hk' : k = ws.length := by simp only at h; omega
    rw [hk', List.drop_length] at hd
    refine Or.inl ?_
    have := congrArg List.length hd
    simp [bitsF] at this
    show some i = some _
    rw [ints_len]; congr 1; omega

end Go.Proofs.Ytefciekodhpefaa
