/- Sets of places: the laws, in plain words. -/
import Derived.Test.YtelbhbadkbcakaaGreatF2
namespace Go.Proofs.YtelbhbadkbcakaaGreat
section
open Go.RowKit
attribute [local irreducible] FS FO IT HS
theorem hasN_set {ws : List Nat} {k v i : Nat} (hk : k < ws.length) : hasN (ws.set k v) i = if i / 64 = k then v.testBit (i % 64) else hasN ws i:=by
  unfold hasN
  rw [List.getD_eq_getElem?_getD,List.getElem?_set]
  by_cases e : k = i / 64
  . subst e; simp [hk]
  . rw [if_neg e,if_neg (Ne.symm e),List.getD_eq_getElem?_getD]
theorem hasN_put1 (ws : List Nat) (j : Int) (i : Nat) : hasN (put1 ws j) i = (hasN ws i || (decide ((i : Int) = j) && decide (i < 64 * ws.length))):=by
  unfold put1 turn
  split
  . rename_i h
    have h0 : 0 <= j:=by simp [inW] at h; exact h.1
    have h1 : j / 64 < ws.length:=by simp [inW] at h; exact h.2
    obtain ⟨n,rfl⟩ : ∃ n : Nat,j = n:=⟨j.toNat,by omega⟩
    have e0 : ((n : Int) / 64).toNat = n / 64:=by omega
    rw [e0,Int.toNat_natCast,hasN_set (by omega)]
    by_cases e : i / 64 = n / 64
    . rw [if_pos e,Nat.testBit_or,Nat.testBit_two_pow]
      unfold hasN
      rw [e]
      congr 1
      by_cases e2 : n % 64 = i % 64
      . have : i = n:=by omega
        subst this; simp; omega
      . have : ¬ (i : Int) = n:=by omega
        simp [e2,this]
    . rw [if_neg e]
      have : ¬ (i : Int) = n:=by omega
      simp [this]
  . rename_i h
    have : ¬ ((i : Int) = j /\ i < 64 * ws.length):=by
      rintro ⟨rfl,h2⟩
      exact h (by simp [inW]; omega)
    by_cases h1 : (i : Int) = j
    . have : ¬ i < 64 * ws.length:=fun h2=>this ⟨h1,h2⟩
      simp [this]
    . simp [h1]
theorem hasN_zero (n : Nat) (i : Nat) : hasN (List.replicate n 0) i = false:=by
  unfold hasN
  rw [List.getD_eq_getElem?_getD,List.getElem?_replicate]
  split <;> simp
theorem hasN_puts (p : Int -> Option Int) : ∀ (l : List Int) (ws : List Nat) (i : Nat),hasN (puts p ws l) i = (hasN ws i || (decide (i < 64 * ws.length) && l.any fun x=>p x == some (i : Int)))
  | [],ws,i=>by simp [puts]
  | x :: l, ws, i => by
    have:=hasN_puts p l (match p x with | some j=>put1 ws j | none=>ws) i
    show hasN (puts p (match p x with | some j=>put1 ws j | none=>ws) l) i = _
    rw [this,List.any_cons]
    cases hx : p x with
    | none=>simp
    | some j =>
      simp only [hasN_put1,put1_len]
      have : (some j == some (i : Int)) = decide ((i : Int) = j):=by
        rw [Bool.eq_iff_iff,beq_iff_eq,Option.some.injEq,decide_eq_true_iff]
        exact eq_comm
      rw [this]
      cases hasN ws i <;> cases decide ((i : Int) = j) <;> cases decide (i < 64 * ws.length) <;> simp
end
end Go.Proofs.YtelbhbadkbcakaaGreat
