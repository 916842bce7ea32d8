/- Dense vectors: which are right; new ones; copies. Dense vectors: what they are as items, and back (plain laws). -/
import Derived.Test.YtahpfomabgfmkaaV5
namespace Go.Proofs.Ytahpfomabgfmkaa
section
open Go.RowKit
attribute [local irreducible] FS FO IT HS

/-- A dense vector: how many places, which have a value, the values. -/
def DV (n : Int) (f : List Nat) (v : List Int) : SV := .agg [.int .i64 n, U f, Z v]

def ir_slices_Equal_uint64_uint64 : IR :=
(.seq (.reg (⟨(some 4), .mv (.c (.bool false)), none⟩ :: [])) (.seq (.seq (.reg (⟨(some 6), .mv (.t 0), none⟩ ::⟨(some 7), .ln (.t 6), none⟩ ::⟨(some 8), .mv (.t 1), none⟩ ::⟨(some 9), .ln (.t 8), none⟩ ::⟨(some 10), .bin .neq (.t 7) (.t 9), none⟩ :: [])) (.cond (.t 10) (.seq (.reg (⟨(some 4), .mv (.c (.bool false)), none⟩ :: [])) .ret) .skip)) (.seq (.seq (.reg (⟨(some 11), .mv (.t 0), none⟩ ::⟨(some 12), .ln (.t 11), none⟩ ::⟨(some 13), .mv (.c (.int .i64 0)), none⟩ :: [])) (.block 0 (.loop (.seq (.reg (⟨(some 14), .bin .lss (.t 13) (.t 12), none⟩ :: [])) (.seq (.cond (.t 14) .skip (.exit 0)) (.seq (.block 1 (.seq (.reg (⟨(some 15), .mv (.t 13), none⟩ ::⟨(some 5), .mv (.t 15), none⟩ :: [])) (.seq (.draw (⟨(some 16), .mv (.t 0), none⟩ ::⟨(some 17), .mv (.t 5), none⟩ ::⟨(some 18), .ia 1 (.t 16) (.t 17), none⟩ ::⟨(some 19), .ld 1 false (.t 18), none⟩ ::⟨(some 20), .mv (.t 1), none⟩ ::⟨(some 21), .mv (.t 5), none⟩ ::⟨(some 22), .ia 1 (.t 20) (.t 21), none⟩ ::⟨(some 23), .ld 1 false (.t 22), none⟩ :: []) (⟨(some 24), .bin .neq (.t 19) (.t 23), none⟩ :: [])) (.cond (.t 24) (.seq (.reg (⟨(some 4), .mv (.c (.bool false)), none⟩ :: [])) .ret) .skip)))) (.reg (⟨(some 25), .bin .add (.t 13) (.c (.int .i64 1)), none⟩ ::⟨(some 13), .mv (.t 25), none⟩ :: [])))))))) (.seq (.reg (⟨(some 4), .mv (.c (.bool true)), none⟩ :: [])) .ret))))
theorem cd_slices_Equal_uint64_uint64 : Code1 Try.prog 86 26 ir_slices_Equal_uint64_uint64 [.t 4] := ⟨Try.call86, _, _, Try.func86, rfl, by kernel_rfl, by kernel_rfl, by kernel_rfl, by kernel_rfl⟩

theorem fs_EqualU (a b : List Nat) (hla : a.length ≤ 1000000000) : FS Try.prog 86 [U a, U b] (.bool (decide (a = b))) := by
  refine fs_of_cvc mixed cd_slices_Equal_uint64_uint64 (by simp) ?_
  have ha := U_len a
  have hb := U_len b
  repeat' (conv => whnf); first
    | ((refine Br.beq (by rfl) ?_))
    | ((refine Br.bne (by rfl) ?_))
    | ((refine And.intro (Or.inl (Nat.zero_le _)) ?_))
    | ((refine And.intro (show _ ≤ _ from Nat.le_of_ble_eq_true rfl) ?_))
    | (refine Br.tt ?_)
    | (refine Br.ff ?_)
    | (refine Br.dec (fun h => ?_) (fun h => ?_)) <;> try (exfalso; omega)
    | (refine Br.neg ?_)
    | (refine Br.mk (fun h => ?_) (fun h => ?_))
    | (refine And.intro rfl ?_)
    | (refine And.intro (by omega) ?_)
    | (refine ⟨_, Or.inl ⟨⟨by omega, by omega⟩, rfl⟩, ?_⟩)
    | (refine And.intro (by simp only [lens_all, U_len, zs_len]; first | done | omega) ?_)
    | (refine And.intro (Nat.le_refl _) ?_)
    | fail
  · show SV.bool false = _
    rw [decide_eq_false]; intro e; subst e; omega
  have hlen : a.length = b.length := by omega
  refine ⟨Nat, fun k => k ≤ a.length ∧ a.take k = b.take k, fun k => [(0, U a), (1, U b), (12, .int .i64 (a.length : Int)), (13, .int .i64 (k : Int))], fun k => [], fun _ => none, fun k => a.length - k, ⟨0, ⟨by omega, rfl⟩, ⟨rfl, rfl, ?_, rfl, trivial⟩, trivial, rfl⟩, fun k hk => ?_⟩
  · exact congrArg (SV.int .i64) (congrArg Int.ofNat ha)
  have hk' : k ≤ a.length := hk.1
  repeat' (conv => whnf); first
    | ((refine fun x hx => ?_); (obtain rfl := U_at hx; clear hx))
    | ((refine Br.beq (by rfl) ?_))
    | ((refine Br.bne (by rfl) ?_))
    | ((refine And.intro (Or.inl (Nat.zero_le _)) ?_))
    | ((refine And.intro (show _ ≤ _ from Nat.le_of_ble_eq_true rfl) ?_))
    | (refine Br.tt ?_)
    | (refine Br.ff ?_)
    | (refine Br.dec (fun h => ?_) (fun h => ?_)) <;> try (exfalso; omega)
    | (refine Br.neg ?_)
    | (refine Br.mk (fun h => ?_) (fun h => ?_))
    | (refine And.intro rfl ?_)
    | (refine And.intro (by omega) ?_)
    | (refine ⟨_, Or.inl ⟨⟨by omega, by omega⟩, rfl⟩, ?_⟩)
    | (refine And.intro (by simp only [lens_all, U_len, zs_len]; first | done | omega) ?_)
    | (refine And.intro (Nat.le_refl _) ?_)
    | fail
  · show SV.bool false = _
    rw [decide_eq_false]
    rintro rfl
    refine h ?_
    rfl
  · refine ⟨k + 1, ⟨(show k + 1 ≤ a.length by omega), take_more hk.2 (show a[k]? = b[k]? from by rw [getD_get 0 (show k < a.length by omega), getD_get 0 (show k < b.length by omega)]; exact congrArg some (Int.ofNat.inj (Classical.not_not.1 h)))⟩, (show a.length - (k + 1) < a.length - k by omega), ⟨rfl, rfl, rfl, rfl, trivial⟩, trivial, rfl⟩
  · have hkl : k = a.length := by omega
    show SV.bool true = _
    rw [decide_eq_true]
    have := hk.2
    rwa [hkl, List.take_length, hlen, List.take_length] at this

def ir_slices_Equal_int64_int64 : IR :=
(.seq (.reg (⟨(some 4), .mv (.c (.bool false)), none⟩ :: [])) (.seq (.seq (.reg (⟨(some 6), .mv (.t 0), none⟩ ::⟨(some 7), .ln (.t 6), none⟩ ::⟨(some 8), .mv (.t 1), none⟩ ::⟨(some 9), .ln (.t 8), none⟩ ::⟨(some 10), .bin .neq (.t 7) (.t 9), none⟩ :: [])) (.cond (.t 10) (.seq (.reg (⟨(some 4), .mv (.c (.bool false)), none⟩ :: [])) .ret) .skip)) (.seq (.seq (.reg (⟨(some 11), .mv (.t 0), none⟩ ::⟨(some 12), .ln (.t 11), none⟩ ::⟨(some 13), .mv (.c (.int .i64 0)), none⟩ :: [])) (.block 0 (.loop (.seq (.reg (⟨(some 14), .bin .lss (.t 13) (.t 12), none⟩ :: [])) (.seq (.cond (.t 14) .skip (.exit 0)) (.seq (.block 1 (.seq (.reg (⟨(some 15), .mv (.t 13), none⟩ ::⟨(some 5), .mv (.t 15), none⟩ :: [])) (.seq (.draw (⟨(some 16), .mv (.t 0), none⟩ ::⟨(some 17), .mv (.t 5), none⟩ ::⟨(some 18), .ia 1 (.t 16) (.t 17), none⟩ ::⟨(some 19), .ld 1 false (.t 18), none⟩ ::⟨(some 20), .mv (.t 1), none⟩ ::⟨(some 21), .mv (.t 5), none⟩ ::⟨(some 22), .ia 1 (.t 20) (.t 21), none⟩ ::⟨(some 23), .ld 1 false (.t 22), none⟩ :: []) (⟨(some 24), .bin .neq (.t 19) (.t 23), none⟩ :: [])) (.cond (.t 24) (.seq (.reg (⟨(some 4), .mv (.c (.bool false)), none⟩ :: [])) .ret) .skip)))) (.reg (⟨(some 25), .bin .add (.t 13) (.c (.int .i64 1)), none⟩ ::⟨(some 13), .mv (.t 25), none⟩ :: [])))))))) (.seq (.reg (⟨(some 4), .mv (.c (.bool true)), none⟩ :: [])) .ret))))
theorem cd_slices_Equal_int64_int64 : Code1 Try.prog 87 26 ir_slices_Equal_int64_int64 [.t 4] := ⟨Try.call87, _, _, Try.func87, rfl, by kernel_rfl, by kernel_rfl, by kernel_rfl, by kernel_rfl⟩

theorem fs_EqualZ (a b : List Int) (hla : a.length ≤ 1000000000) : FS Try.prog 87 [Z a, Z b] (.bool (decide (a = b))) := by
  refine fs_of_cvc mixed cd_slices_Equal_int64_int64 (by simp) ?_
  have ha := zs_len a
  have hb := zs_len b
  repeat' (conv => whnf); first
    | ((refine Br.beq (by rfl) ?_))
    | ((refine Br.bne (by rfl) ?_))
    | ((refine And.intro (Or.inl (Nat.zero_le _)) ?_))
    | ((refine And.intro (show _ ≤ _ from Nat.le_of_ble_eq_true rfl) ?_))
    | (refine Br.tt ?_)
    | (refine Br.ff ?_)
    | (refine Br.dec (fun h => ?_) (fun h => ?_)) <;> try (exfalso; omega)
    | (refine Br.neg ?_)
    | (refine Br.mk (fun h => ?_) (fun h => ?_))
    | (refine And.intro rfl ?_)
    | (refine And.intro (by omega) ?_)
    | (refine ⟨_, Or.inl ⟨⟨by omega, by omega⟩, rfl⟩, ?_⟩)
    | (refine And.intro (by simp only [lens_all, U_len, zs_len]; first | done | omega) ?_)
    | (refine And.intro (Nat.le_refl _) ?_)
    | fail
  · show SV.bool false = _
    rw [decide_eq_false]; intro e; subst e; omega
  have hlen : a.length = b.length := by omega
  refine ⟨Nat, fun k => k ≤ a.length ∧ a.take k = b.take k, fun k => [(0, Z a), (1, Z b), (12, .int .i64 (a.length : Int)), (13, .int .i64 (k : Int))], fun k => [], fun _ => none, fun k => a.length - k, ⟨0, ⟨by omega, rfl⟩, ⟨rfl, rfl, ?_, rfl, trivial⟩, trivial, rfl⟩, fun k hk => ?_⟩
  · exact congrArg (SV.int .i64) (congrArg Int.ofNat ha)
  have hk' : k ≤ a.length := hk.1
  repeat' (conv => whnf); first
    | ((refine fun x hx => ?_); (obtain rfl := zs_at hx; clear hx))
    | ((refine Br.beq (by rfl) ?_))
    | ((refine Br.bne (by rfl) ?_))
    | ((refine And.intro (Or.inl (Nat.zero_le _)) ?_))
    | ((refine And.intro (show _ ≤ _ from Nat.le_of_ble_eq_true rfl) ?_))
    | (refine Br.tt ?_)
    | (refine Br.ff ?_)
    | (refine Br.dec (fun h => ?_) (fun h => ?_)) <;> try (exfalso; omega)
    | (refine Br.neg ?_)
    | (refine Br.mk (fun h => ?_) (fun h => ?_))
    | (refine And.intro rfl ?_)
    | (refine And.intro (by omega) ?_)
    | (refine ⟨_, Or.inl ⟨⟨by omega, by omega⟩, rfl⟩, ?_⟩)
    | (refine And.intro (by simp only [lens_all, U_len, zs_len]; first | done | omega) ?_)
    | (refine And.intro (Nat.le_refl _) ?_)
    | fail
  · show SV.bool false = _
    rw [decide_eq_false]
    rintro rfl
    refine h ?_
    rfl
  · refine ⟨k + 1, ⟨(show k + 1 ≤ a.length by omega), take_more hk.2 (show a[k]? = b[k]? from by rw [getD_get 0 (show k < a.length by omega), getD_get 0 (show k < b.length by omega)]; exact congrArg some (Classical.not_not.1 h))⟩, (show a.length - (k + 1) < a.length - k by omega), ⟨rfl, rfl, rfl, rfl, trivial⟩, trivial, rfl⟩
  · have hkl : k = a.length := by omega
    show SV.bool true = _
    rw [decide_eq_true]
    have := hk.2
    rwa [hkl, List.take_length, hlen, List.take_length] at this

def ir_devec_Same : IR :=
(.seq (.reg (⟨(some 2), .bx (.t 0), none⟩ ::⟨(some 3), .bx (.t 1), none⟩ ::⟨(some 4), .mv (.c (.bool false)), none⟩ :: [])) (.seq (.reg (⟨(some 5), .fa 0 (.t 2), none⟩ ::⟨(some 6), .ld 1 false (.t 5), none⟩ ::⟨(some 7), .fa 0 (.t 3), none⟩ ::⟨(some 8), .ld 1 false (.t 7), none⟩ ::⟨(some 9), .bin .eql (.t 6) (.t 8), none⟩ ::⟨(some 10), .mv (.t 9), none⟩ ::⟨(some 11), .fa 1 (.t 2), some (10, true)⟩ ::⟨(some 12), .ld 1 false (.t 11), some (10, true)⟩ ::⟨(some 13), .fa 1 (.t 3), some (10, true)⟩ ::⟨(some 14), .ld 1 false (.t 13), some (10, true)⟩ ::⟨(some 15), .call (.c (.fn 86 [])) [(.t 12), (.t 14)], some (10, true)⟩ ::⟨(some 16), .pick (.t 10) (.t 15) (.c (.bool false)), none⟩ ::⟨(some 17), .mv (.t 16), none⟩ ::⟨(some 18), .fa 2 (.t 2), some (17, true)⟩ ::⟨(some 19), .ld 1 false (.t 18), some (17, true)⟩ ::⟨(some 20), .fa 2 (.t 3), some (17, true)⟩ ::⟨(some 21), .ld 1 false (.t 20), some (17, true)⟩ ::⟨(some 22), .call (.c (.fn 87 [])) [(.t 19), (.t 21)], some (17, true)⟩ ::⟨(some 23), .pick (.t 17) (.t 22) (.c (.bool false)), none⟩ ::⟨(some 4), .mv (.t 23), none⟩ :: [])) .ret))
theorem cd_devec_Same : Code1 Try.prog 40 24 ir_devec_Same [.t 4] := ⟨Try.call40, _, _, Try.func40, rfl, by kernel_rfl, by kernel_rfl, by kernel_rfl, by kernel_rfl⟩

theorem fs_dSame (n : Int) (f : List Nat) (v : List Int) (m : Int) (g : List Nat) (u : List Int) (hf : f.length ≤ 1000000000) (hv : v.length ≤ 1000000000) : FS Try.prog 40 [DV n f v, DV m g u] (.bool (decide (n = m) && (decide (f = g) && decide (v = u)))) := by
  refine fs_of_cvc mixed cd_devec_Same (by simp) ?_
  repeat' (conv => whnf); first
    | ((refine Or.inl ⟨by rfl, _, fs_EqualU f g hf, ?_⟩))
    | ((refine Or.inl ⟨by rfl, _, fs_EqualZ v u hv, ?_⟩))
    | ((refine Br.beq (by rfl) ?_))
    | ((refine Br.bne (by rfl) ?_))
    | ((refine And.intro (Or.inl (Nat.zero_le _)) ?_))
    | ((refine And.intro (show _ ≤ _ from Nat.le_of_ble_eq_true rfl) ?_))
    | (refine Br.tt ?_)
    | (refine Br.ff ?_)
    | (refine Br.dec (fun h => ?_) (fun h => ?_)) <;> try (exfalso; omega)
    | (refine Br.neg ?_)
    | (refine Br.mk (fun h => ?_) (fun h => ?_))
    | (refine And.intro rfl ?_)
    | (refine And.intro (by omega) ?_)
    | (refine ⟨_, Or.inl ⟨⟨by omega, by omega⟩, rfl⟩, ?_⟩)
    | (refine And.intro (by simp only [lens_all, U_len, zs_len]; first | done | omega) ?_)
    | (refine And.intro (Nat.le_refl _) ?_)
    | fail
  all_goals (show SV.bool _ = SV.bool _; simp [*])

theorem zs_rep (k : Nat) (a : Int) : zs (List.replicate k a) = List.replicate k [.int .i64 a] := by simp [zs]
/-- So many places, or none. -/
def clipN (n : Int) : Int := if n < 0 ∨ 4096 < n then 0 else n
theorem clipN_bd (n : Int) : 0 ≤ clipN n ∧ clipN n ≤ 4096 := by unfold clipN; split <;> omega

def ir_devec_New : IR :=
(.seq (.reg (⟨(some 2), .al [.int .i64 0, .nils, .nils], none⟩ :: [])) (.seq (.seq (.reg (⟨(some 3), .mv (.t 0), none⟩ ::⟨(some 4), .bin .lss (.t 3) (.c (.int .i64 0)), none⟩ ::⟨(some 5), .mv (.t 4), none⟩ ::⟨(some 6), .mv (.t 0), some (5, false)⟩ ::⟨(some 7), .bin .gtr (.t 6) (.c (.int .i64 4096)), some (5, false)⟩ ::⟨(some 8), .pick (.t 5) (.c (.bool true)) (.t 7), none⟩ :: [])) (.cond (.t 8) (.reg (⟨(some 0), .mv (.c (.int .i64 0)), none⟩ :: [])) .skip)) (.seq (.draw (⟨(some 9), .mv (.t 0), none⟩ ::⟨(some 10), .mv (.t 0), none⟩ ::⟨(some 11), .call (.c (.fn 78 [])) [(.t 10)], none⟩ ::⟨(some 12), .mv (.t 0), none⟩ ::⟨(some 13), .mk 1 8 [.int .i64 0] (.t 12) (.t 12), none⟩ :: []) (⟨(some 14), .bld [.int .i64 0, .nils, .nils] [(0, 1, (.t 9)), (1, 1, (.t 11)), (2, 1, (.t 13))], none⟩ ::⟨none, .st 3 (.t 2) (.t 14), none⟩ :: [])) .ret)))
theorem cd_devec_New : Code1 Try.prog 25 15 ir_devec_New [.c 3 true 2] := ⟨Try.call25, _, _, Try.func25, rfl, by kernel_rfl, by kernel_rfl, by kernel_rfl, by kernel_rfl⟩

theorem fo_dNew (n : Int) : FO Try.prog 25 [.int .i64 n] (.agg [.int .i64 (clipN n), .osl 0 1 0 (wordsI (clipN n)), .osl 1 1 0 (clipN n).toNat]) [.arr 1 (uw (List.replicate (wordsI (clipN n)) 0)), .arr 1 (zs (List.replicate (clipN n).toNat 0))] := by
  refine fo_of_cvc mixed cd_devec_New (by simp) ?_
  have hb := clipN_bd n
  have c := fo_New (clipN n) (by omega) (by omega)
  have fin : ∀ H : List Blk, H[1]? = some (.arr 1 (uw (List.replicate (wordsI (clipN n)) 0))) → H[2]? = some (.arr 1 (List.replicate (clipN n).toNat [.int .i64 0])) → FoP H (.agg [.int .i64 (clipN n), .osl 1 1 0 (wordsI (clipN n)), .osl 2 1 0 (clipN n).toNat]) (.agg [.int .i64 (clipN n), .osl 0 1 0 (wordsI (clipN n)), .osl 1 1 0 (clipN n).toNat]) [.arr 1 (uw (List.replicate (wordsI (clipN n)) 0)), .arr 1 (zs (List.replicate (clipN n).toNat 0))] := fun H h1 h2 =>
    Or.inr (Or.inr (FoS.two 1 2 (by omega) (MatL.agg (.cons (.same _ rfl) (.cons (.osl 0 1 1 0 _ rfl) (.cons (.osl 1 2 1 0 _ rfl) .nil)))) h1 (by rw [h2, zs_rep]) rfl rfl))
  by_cases h : n < 0 ∨ 4096 < n
  · have e : clipN n = 0 := if_pos h
    rw [e] at c fin ⊢
    repeat' (conv => whnf); first
      | ((refine Or.inr (Or.inl ⟨by rfl, _, _, c, ?_⟩)))
      | ((refine Br.beq (by rfl) ?_))
      | ((refine Br.bne (by rfl) ?_))
      | ((refine And.intro (Or.inl (Nat.zero_le _)) ?_))
      | ((refine And.intro (show _ ≤ _ from Nat.le_of_ble_eq_true rfl) ?_))
      | (refine Br.tt ?_)
      | (refine Br.ff ?_)
      | (refine Br.dec (fun h => ?_) (fun h => ?_)) <;> try (exfalso; omega)
      | (refine Br.neg ?_)
      | (refine Br.mk (fun h => ?_) (fun h => ?_))
      | (refine And.intro rfl ?_)
      | (refine And.intro (by omega) ?_)
      | (refine ⟨_, Or.inl ⟨⟨by omega, by omega⟩, rfl⟩, ?_⟩)
      | (refine And.intro (by simp only [lens_all, U_len, zs_len]; first | done | omega) ?_)
      | (refine And.intro (Nat.le_refl _) ?_)
      | fail
    all_goals exact fin _ rfl rfl
  · have e : clipN n = n := if_neg h
    rw [e] at c fin ⊢
    repeat' (conv => whnf); first
      | ((refine Or.inr (Or.inl ⟨by rfl, _, _, c, ?_⟩)))
      | ((refine Br.beq (by rfl) ?_))
      | ((refine Br.bne (by rfl) ?_))
      | ((refine And.intro (Or.inl (Nat.zero_le _)) ?_))
      | ((refine And.intro (show _ ≤ _ from Nat.le_of_ble_eq_true rfl) ?_))
      | (refine Br.tt ?_)
      | (refine Br.ff ?_)
      | (refine Br.dec (fun h => ?_) (fun h => ?_)) <;> try (exfalso; omega)
      | (refine Br.neg ?_)
      | (refine Br.mk (fun h => ?_) (fun h => ?_))
      | (refine And.intro rfl ?_)
      | (refine And.intro (by omega) ?_)
      | (refine ⟨_, Or.inl ⟨⟨by omega, by omega⟩, rfl⟩, ?_⟩)
      | (refine And.intro (by simp only [lens_all, U_len, zs_len]; first | done | omega) ?_)
      | (refine And.intro (Nat.le_refl _) ?_)
      | fail
    all_goals exact fin _ rfl rfl
end
section
open Go.RowKit
attribute [local irreducible] FS FO IT HS

/-- Whether a vector can be. -/
def dR (n : Int) (f : List Nat) (v : List Int) : Bool := rightB f n && (decide ((v.length : Int) = n) && (List.range v.length).all fun (i : Nat) => hasI f (i : Int) || v.getD i 0 == 0)
structure OkD (n : Int) (f : List Nat) (v : List Int) : Prop where
  n0 : 0 ≤ n
  n1 : n ≤ 4096
  wd : Wd f
  fl : f.length = wordsI n
  top : ∀ i : Nat, hasN f i = true → (i : Int) < n
  vl : (v.length : Int) = n
  ze : ∀ i : Nat, i < v.length → hasN f i = false → v.getD i 0 = 0

theorem hasN_out {f : List Nat} {i : Nat} (h : 64 * f.length ≤ i) : hasN f i = false := by
  unfold hasN
  rw [List.getD_eq_getElem?_getD, List.getElem?_eq_none (by omega)]
  simp
theorem hasI_nat (f : List Nat) (i : Nat) : hasI f (i : Int) = hasN f i := by simp [hasI]
theorem rightB_top {f : List Nat} (hw : Wd f) {n : Int} : (nextI f n < 0) ↔ ∀ i : Nat, hasN f i = true → (i : Int) < n := by
  rw [nextI_neg]
  constructor
  · intro h i hi
    refine h i ((bits_mem hw).2 ⟨?_, hi⟩)
    rcases Nat.lt_or_ge i (64 * f.length) with h' | h'
    · exact h'
    · rw [hasN_out h'] at hi; cases hi
  · intro h b hb
    exact h b ((bits_mem hw).1 hb).2
theorem okD_of {n : Int} {f : List Nat} {v : List Int} (hw : Wd f) (h : dR n f v = true) : OkD n f v := by
  unfold dR rightB at h
  simp only [Bool.and_eq_true, decide_eq_true_eq, List.all_eq_true, List.mem_range, Bool.or_eq_true, beq_iff_eq] at h
  obtain ⟨⟨h1, h2, h3, h4⟩, h5, h6⟩ := h
  refine ⟨h1, h2, hw, by omega, (rightB_top hw).1 h4, h5, fun i hi hf => ?_⟩
  rcases h6 i hi with h | h
  · rw [hasI_nat, hf] at h; cases h
  · exact h
theorem OkD.right {n : Int} {f : List Nat} {v : List Int} (h : OkD n f v) : dR n f v = true := by
  unfold dR rightB
  simp only [Bool.and_eq_true, decide_eq_true_eq, List.all_eq_true, List.mem_range, Bool.or_eq_true, beq_iff_eq]
  refine ⟨⟨h.n0, h.n1, by rw [h.fl], (rightB_top h.wd).2 h.top⟩, h.vl, fun i hi => ?_⟩
  rw [hasI_nat]
  cases hh : hasN f i with
  | true => exact .inl rfl
  | false => exact .inr (h.ze i hi hh)
theorem okD_zero : OkD 0 [] [] := by
  refine ⟨by omega, by omega, ?_, by decide, fun i h => ?_, rfl, fun i h => ?_⟩
  · intro x hx; cases hx
  · rw [hasN_out (by simp)] at h; cases h
  · simp at h
theorem OkD.len {n : Int} {f : List Nat} {v : List Int} (h : OkD n f v) : f.length ≤ 64 := by
  rw [h.fl]; unfold wordsI; omega
/-- A vector that can be. -/
def dS (n : Int) (f : List Nat) (v : List Int) : Int × List Nat × List Int := if dR n f v = true then (n, f, v) else (0, [], [])
theorem okD_dS (n : Int) {f : List Nat} (v : List Int) (hw : Wd f) : OkD (dS n f v).1 (dS n f v).2.1 (dS n f v).2.2 := by
  unfold dS
  split
  · rename_i h; exact okD_of hw h
  · exact okD_zero
theorem OkD.dS {n : Int} {f : List Nat} {v : List Int} (h : OkD n f v) : dS n f v = (n, f, v) := if_pos h.right

/-- The value at a place. -/
def dG (f : List Nat) (v : List Int) (k : Int) : Option Int := if hasI f k = true then some (v.getD k.toNat 0) else none
def bkL (f : List Nat) (v : List Int) : List (Int × Int) := (bits f).map fun (i : Nat) => ((i : Int), v.getD i 0)
theorem up_bkL {f : List Nat} (hw : Wd f) (v : List Int) : Up (bkL f v) := by
  refine List.pairwise_map.2 ((bits_sorted hw).imp fun {x y} h => ?_)
  show (x : Int) < (y : Int)
  omega
theorem gt_bkL {f : List Nat} (hw : Wd f) (v : List Int) (k : Int) : gt (bkL f v) k = dG f v k := by
  unfold dG
  by_cases h : hasI f k = true
  · rw [if_pos h]
    have h0 : 0 ≤ k := by unfold hasI at h; rw [Bool.and_eq_true, decide_eq_true_eq] at h; exact h.1
    obtain ⟨n, rfl⟩ : ∃ n : Nat, k = n := ⟨k.toNat, by omega⟩
    rw [hasI_nat] at h
    have hm : n ∈ bits f := by
      refine (bits_mem hw).2 ⟨?_, h⟩
      rcases Nat.lt_or_ge n (64 * f.length) with h' | h'
      · exact h'
      · rw [hasN_out h'] at h; cases h
    exact gt_some (up_bkL hw v) (x := ((n : Int), v.getD n 0)) (List.mem_map.2 ⟨n, hm, rfl⟩)
  · rw [if_neg h]
    refine gt_none fun x hx e => h ?_
    obtain ⟨n, hn, rfl⟩ := List.mem_map.1 hx
    simp only at e
    rw [← e, hasI_nat]
    exact ((bits_mem hw).1 hn).2
theorem okV_bkL {n : Int} {f : List Nat} {v : List Int} (h : OkD n f v) : OkV n (bkL f v) := by
  refine ⟨h.n0, h.n1, up_bkL h.wd v, fun x hx => ?_⟩
  obtain ⟨i, hi, rfl⟩ := List.mem_map.1 hx
  exact ⟨by show (0 : Int) ≤ (i : Int); omega, h.top i ((bits_mem h.wd).1 hi).2⟩

/-- Items as a dense vector. -/
def plsI (l : List (Int × Int)) : List Int := l.map (·.1)
def toF (n : Int) (l : List (Int × Int)) : List Nat := ofN n (plsI l)
def toL (n : Int) (l : List (Int × Int)) : List Int := tab n.toNat fun i => (gt l (i : Int)).getD 0
theorem hasN_toF {n : Int} {l : List (Int × Int)} (h : OkV n l) (i : Nat) : hasN (toF n l) i = (gt l (i : Int)).isSome := by
  unfold toF ofN
  rw [hasN_puts, hasN_zero, Bool.false_or, List.length_replicate, Bool.eq_iff_iff, Bool.and_eq_true, decide_eq_true_eq, List.any_eq_true]
  constructor
  · rintro ⟨_, y, hy, he⟩
    obtain ⟨z, hz, rfl⟩ := List.mem_map.1 hy
    rw [beq_iff_eq] at he
    split at he
    · have := Option.some.inj he
      rw [← this, gt_some h.up hz]; rfl
    · cases he
  · intro hs
    obtain ⟨v, hv⟩ := Option.isSome_iff_exists.1 hs
    have hm := gt_mem hv
    have hl := h.lo _ hm
    have := h.n1
    refine ⟨by unfold wordsI; simp only at hl; omega, (i : Int), List.mem_map.2 ⟨_, hm, rfl⟩, ?_⟩
    rw [beq_iff_eq]
    exact if_pos hl.2
theorem okD_to {n : Int} {l : List (Int × Int)} (h : OkV n l) : OkD n (toF n l) (toL n l) := by
  have hn0 := h.n0
  refine ⟨h.n0, h.n1, puts_wd _ _ _ (wd_zero _), by unfold toF ofN; rw [puts_len, List.length_replicate], fun i hi => ?_, by unfold toL; rw [tab_len]; omega, fun i hi hf => ?_⟩
  · rw [hasN_toF h] at hi
    obtain ⟨v, hv⟩ := Option.isSome_iff_exists.1 hi
    exact (h.lo _ (gt_mem hv)).2
  · unfold toL at hi ⊢
    rw [tab_len] at hi
    rw [List.getD_eq_getElem?_getD, tab_get _ hi]
    rw [hasN_toF h] at hf
    cases hg : gt l (i : Int) with
    | none => rfl
    | some v => rw [hg] at hf; cases hf
theorem dG_to {n : Int} {l : List (Int × Int)} (h : OkV n l) (k : Int) : dG (toF n l) (toL n l) k = gt l k := by
  unfold dG
  by_cases h0 : 0 ≤ k
  · obtain ⟨i, rfl⟩ : ∃ i : Nat, k = i := ⟨k.toNat, by omega⟩
    rw [hasI_nat, hasN_toF h]
    cases hg : gt l (i : Int) with
    | none => rfl
    | some v =>
      have := h.lo _ (gt_mem hg)
      simp only at this
      rw [if_pos (show (some v).isSome = true from rfl), Int.toNat_natCast]
      unfold toL
      rw [List.getD_eq_getElem?_getD, tab_get _ (by omega), hg]; rfl
  · have : hasI (toF n l) k = false := by unfold hasI; rw [decide_eq_false h0]; rfl
    rw [this, if_neg (by simp), h.out (by omega)]
theorem to_eq {n : Int} {f : List Nat} {v : List Int} {l : List (Int × Int)} (h : OkD n f v) (hl : OkV n l) (hg : ∀ k, dG f v k = gt l k) : f = toF n l ∧ v = toL n l := by
  have ht := okD_to hl
  have hh : ∀ i : Nat, hasN f i = hasN (toF n l) i := fun i => by
    have h1 := hg (i : Int)
    rw [← dG_to hl] at h1
    unfold dG at h1
    rw [hasI_nat, hasI_nat] at h1
    cases h2 : hasN f i <;> cases h3 : hasN (toF n l) i <;> simp_all
  refine ⟨words_ext h.wd ht.wd (by rw [h.fl, ht.fl]) fun i _ => hh i, ?_⟩
  have hlen : v.length = (toL n l).length := by have := h.vl; have := ht.vl; omega
  refine List.ext_getElem hlen fun i h1 h2 => ?_
  have e1 : v.getD i 0 = v[i] := by simp [h1]
  have e2 : (toL n l).getD i 0 = (toL n l)[i] := by simp [h2]
  rw [← e1, ← e2]
  cases hf : hasN f i with
  | false =>
    rw [h.ze i h1 hf, ht.ze i h2 (by rw [← hh]; exact hf)]
  | true =>
    have h3 := hg (i : Int)
    rw [← dG_to hl] at h3
    unfold dG at h3
    rw [hasI_nat, hasI_nat, ← hh, hf, if_pos rfl, if_pos rfl, Int.toNat_natCast] at h3
    exact Option.some.inj h3
theorem bk_to {n : Int} {l : List (Int × Int)} (h : OkV n l) : bkL (toF n l) (toL n l) = l :=
  up_ext (up_bkL (okD_to h).wd _) h.up fun k => by rw [gt_bkL (okD_to h).wd, dG_to h]
end
end Go.Proofs.Ytahpfomabgfmkaa
