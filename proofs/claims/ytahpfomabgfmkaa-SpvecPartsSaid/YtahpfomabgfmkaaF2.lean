/- The document's sets of places: words, places, lists. The document's sets of places: ranks, what two come to, parts. -/
import Derived.Test.YtahpfomabgfmkaaF1
namespace Go.Proofs.Ytahpfomabgfmkaa
section
open Go.RowKit
attribute [local irreducible] FS FO IT HS

theorem zs_at {l : List Int} {k : Nat} {x : List SV} (h : (zs l)[k]? = some x) : x = [.int .i64 (l.getD k 0)] := by
  obtain ⟨v, hv, rfl⟩ := zs_get h
  rw [List.getD_eq_getElem?_getD, hv]; rfl
theorem U_at {l : List Nat} {k : Nat} {x : List SV} (h : (uw l)[k]? = some x) : x = [.int .u64 ((l.getD k 0 : Nat) : Int)] := by
  obtain ⟨v, hv, rfl⟩ := U_get h
  rw [List.getD_eq_getElem?_getD, hv]; rfl
theorem ints_at {l : List Nat} {k : Nat} {x : List SV} (h : (ints l)[k]? = some x) : x = [.int .i64 ((l.getD k 0 : Nat) : Int)] := by
  obtain ⟨v, hv, rfl⟩ := ints_get' h
  rw [List.getD_eq_getElem?_getD, hv]; rfl
/-- Numbers of Go. -/
def Zb (l : List Int) : Prop := ∀ x ∈ l, -9223372036854775808 ≤ x ∧ x ≤ 9223372036854775807
theorem Zb.at {l : List Int} (h : Zb l) (k : Nat) : -9223372036854775808 ≤ l.getD k 0 ∧ l.getD k 0 ≤ 9223372036854775807 := by
  rw [List.getD_eq_getElem?_getD]
  cases hv : l[k]? with
  | none => simp
  | some v => exact h v (List.mem_of_getElem? hv)
theorem getD_get {α : Type} {l : List α} {k : Nat} (z : α) (h : k < l.length) : l[k]? = some (l.getD k z) := by
  rw [List.getD_eq_getElem?_getD, List.getElem?_eq_getElem h]; rfl

theorem take_more {α : Type} {a b : List α} {k : Nat} (h : a.take k = b.take k) (he : a[k]? = b[k]?) : a.take (k + 1) = b.take (k + 1) := by
  rw [List.take_add_one, List.take_add_one, h, he]

def ir_fretworkref03_SameInts : IR :=
(.seq (.reg (⟨(some 4), .mv (.c (.bool false)), none⟩ :: [])) (.seq (.seq (.reg (⟨(some 6), .mv (.t 0), none⟩ ::⟨(some 7), .ln (.t 6), none⟩ ::⟨(some 8), .mv (.t 1), none⟩ ::⟨(some 9), .ln (.t 8), none⟩ ::⟨(some 10), .bin .neq (.t 7) (.t 9), none⟩ :: [])) (.cond (.t 10) (.seq (.reg (⟨(some 4), .mv (.c (.bool false)), none⟩ :: [])) .ret) .skip)) (.seq (.seq (.reg (⟨(some 5), .mv (.c (.int .i64 0)), none⟩ :: [])) (.block 0 (.loop (.seq (.seq (.reg (⟨(some 11), .mv (.t 5), none⟩ ::⟨(some 12), .mv (.t 0), none⟩ ::⟨(some 13), .ln (.t 12), none⟩ ::⟨(some 14), .bin .lss (.t 11) (.t 13), none⟩ :: [])) (.cond (.t 14) .skip (.exit 0))) (.seq (.block 1 (.seq (.draw (⟨(some 17), .mv (.t 0), none⟩ ::⟨(some 18), .mv (.t 5), none⟩ ::⟨(some 19), .ia 1 (.t 17) (.t 18), none⟩ ::⟨(some 20), .ld 1 false (.t 19), none⟩ ::⟨(some 21), .mv (.t 1), none⟩ ::⟨(some 22), .mv (.t 5), none⟩ ::⟨(some 23), .ia 1 (.t 21) (.t 22), none⟩ ::⟨(some 24), .ld 1 false (.t 23), none⟩ :: []) (⟨(some 25), .bin .neq (.t 20) (.t 24), none⟩ :: [])) (.cond (.t 25) (.seq (.reg (⟨(some 4), .mv (.c (.bool false)), none⟩ :: [])) .ret) .skip))) (.reg (⟨(some 15), .mv (.t 5), none⟩ ::⟨(some 16), .bin .add (.t 15) (.c (.int .i64 1)), none⟩ ::⟨(some 5), .mv (.t 16), none⟩ :: []))))))) (.seq (.reg (⟨(some 4), .mv (.c (.bool true)), none⟩ :: [])) .ret))))
theorem cd_fretworkref03_SameInts : Code1 Try.prog 58 26 ir_fretworkref03_SameInts [.t 4] := ⟨Try.call58, _, _, Try.func58, rfl, by kernel_rfl, by kernel_rfl, by kernel_rfl, by kernel_rfl⟩

theorem fs_SameInts (a b : List Int) (hla : a.length ≤ 1000000000) : FS Try.prog 58 [Z a, Z b] (.bool (decide (a = b))) := by
  refine fs_of_cvc mixed cd_fretworkref03_SameInts (by simp) ?_
  have ha := zs_len a
  have hb := zs_len b
  repeat' (conv => whnf); first
    | ((refine fun x hx => ?_); (obtain ⟨v, hv, rfl⟩ := U_get hx))
    | ((refine fun x hx => ?_); (obtain rfl := zs_at hx; clear hx))
    | ((refine fun x hx => ?_); (obtain rfl := ints_at hx; clear hx))
    | ((refine And.intro rfl (And.intro (by simp only [U_len, tab_len, List.length_set]; omega) ?_)))
    | ((refine ar_tdiv (by omega) (by omega) (by omega) ?_))
    | (refine Br.tt ?_)
    | (refine Br.ff ?_)
    | (refine Br.dec (fun h => ?_) (fun h => ?_)) <;> try (exfalso; omega)
    | (refine Br.neg ?_)
    | (refine Br.mk (fun h => ?_) (fun h => ?_))
    | (refine And.intro rfl ?_)
    | (refine And.intro (by omega) ?_)
    | (refine ⟨_, Or.inl ⟨⟨by omega, by omega⟩, rfl⟩, ?_⟩)
    | (refine And.intro (by simp only [lens_all, U_len, tab_len, ints_len, zs_len]; first | done | omega) ?_)
    | (refine And.intro (Nat.le_refl _) ?_)
    | fail
  · show SV.bool false = _
    rw [decide_eq_false]; intro e; subst e; omega
  refine ⟨Nat, fun k => k ≤ a.length ∧ a.take k = b.take k, fun k => [(0, Z a), (1, Z b), (5, .int .i64 (k : Int))], fun k => [], fun _ => none, fun k => a.length - k, ⟨0, ⟨by omega, rfl⟩, ⟨rfl, rfl, rfl, trivial⟩, trivial, rfl⟩, fun k hk => ?_⟩
  have hk' : k ≤ a.length := hk.1
  have hlen : a.length = b.length := by omega
  repeat' (conv => whnf); first
    | ((refine fun x hx => ?_); (obtain ⟨v, hv, rfl⟩ := U_get hx))
    | ((refine fun x hx => ?_); (obtain rfl := zs_at hx; clear hx))
    | ((refine fun x hx => ?_); (obtain rfl := ints_at hx; clear hx))
    | ((refine And.intro rfl (And.intro (by simp only [U_len, tab_len, List.length_set]; omega) ?_)))
    | ((refine ar_tdiv (by omega) (by omega) (by omega) ?_))
    | (refine Br.tt ?_)
    | (refine Br.ff ?_)
    | (refine Br.dec (fun h => ?_) (fun h => ?_)) <;> try (exfalso; omega)
    | (refine Br.neg ?_)
    | (refine Br.mk (fun h => ?_) (fun h => ?_))
    | (refine And.intro rfl ?_)
    | (refine And.intro (by omega) ?_)
    | (refine ⟨_, Or.inl ⟨⟨by omega, by omega⟩, rfl⟩, ?_⟩)
    | (refine And.intro (by simp only [lens_all, U_len, tab_len, ints_len, zs_len]; first | done | omega) ?_)
    | (refine And.intro (Nat.le_refl _) ?_)
    | fail
  · show SV.bool false = _
    rw [decide_eq_false]
    rintro rfl
    refine h ?_
    rfl
  · refine ⟨k + 1, ⟨(show k + 1 ≤ a.length by omega), take_more hk.2 (show a[k]? = b[k]? from by rw [getD_get 0 (show k < a.length by omega), getD_get 0 (show k < b.length by omega)]; exact congrArg some (Classical.not_not.1 h))⟩, (show a.length - (k + 1) < a.length - k by omega), ⟨rfl, rfl, rfl, trivial⟩, trivial, rfl⟩
  · have hkl : k = a.length := by omega
    show SV.bool true = _
    rw [decide_eq_true]
    have := hk.2
    rwa [hkl, List.take_length, hlen, List.take_length] at this
end
section
open Go.RowKit
attribute [local irreducible] FS FO IT HS

theorem nextI_neg {ws : List Nat} {n : Int} : nextI ws n < 0 ↔ ∀ b ∈ bits ws, (b : Int) < n := by
  unfold nextI
  cases h : (bits ws).find? (fun (b : Nat) => decide (n ≤ (b : Int))) with
  | none =>
    rw [List.find?_eq_none] at h
    simp only [decide_eq_true_eq] at h
    show (-1 : Int) < 0 ↔ _
    refine ⟨fun _ b hb => ?_, fun _ => by omega⟩
    have := h b hb; omega
  | some b =>
    have h1 := List.mem_of_find?_eq_some h
    have h2 := List.find?_some h
    simp only [decide_eq_true_eq] at h2
    show (b : Int) < 0 ↔ _
    refine ⟨fun hh => by omega, fun hh => ?_⟩
    have := hh b h1; omega

/-- A set of so many places. -/
def rightB (ws : List Nat) (n : Int) : Bool := decide (0 ≤ n) && (decide (n ≤ 4096) && (decide ((ws.length : Int) = wordsI n) && decide (nextI ws n < 0)))
end
end Go.Proofs.Ytahpfomabgfmkaa
