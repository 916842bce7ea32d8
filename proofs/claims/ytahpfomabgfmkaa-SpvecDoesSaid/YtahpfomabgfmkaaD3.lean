/- Dense vectors: of items; parts; the document's functions. Dense vectors: the document's functions. Dense vectors: the document's functions, the others. -/
import Derived.Test.YtahpfomabgfmkaaD2
namespace Go.Proofs.Ytahpfomabgfmkaa
section
open Go.RowKit
attribute [local irreducible] FS FO IT HS

theorem OkV.clip {n : Int} {l : List (Int × Int)} (h : OkV n l) : clipN n = n := by have := h.n0; have := h.n1; unfold clipN; rw [if_neg (by omega)]
theorem ib_pls {l : List (Int × Int)} {n : Int} (h : OkV n l) : ∀ x ∈ plsI l, -9223372036854775808 ≤ x ∧ x ≤ 9223372036854775807 := fun x hx => by
  obtain ⟨y, hy, rfl⟩ := List.mem_map.1 hx
  have := h.lo y hy
  have := h.n1
  omega
theorem plsI_len (l : List (Int × Int)) : (plsI l).length = l.length := by simp [plsI]

def ir_devec_Of : IR :=
(.seq (.reg (⟨(some 1), .bx (.t 0), none⟩ ::⟨(some 2), .al [.int .i64 0, .nils, .nils], none⟩ :: [])) (.seq (.seq (.reg (⟨(some 6), .ld 2 true (.t 1), none⟩ ::⟨(some 7), .call (.c (.fn 54 [])) [(.t 6)], none⟩ ::⟨(some 8), .un .not (.t 7), none⟩ :: [])) (.cond (.t 8) (.seq (.reg (⟨(some 9), .call (.c (.fn 25 [])) [(.c (.int .i64 0))], none⟩ ::⟨none, .st 3 (.t 2) (.t 9), none⟩ :: [])) .ret) .skip)) (.seq (.reg (⟨(some 10), .fa 0 (.t 1), none⟩ ::⟨(some 11), .ld 1 false (.t 10), none⟩ ::⟨(some 12), .call (.c (.fn 25 [])) [(.t 11)], none⟩ ::⟨(some 3), .al [.int .i64 0, .nils, .nils], none⟩ ::⟨none, .st 3 (.t 3) (.t 12), none⟩ :: [])) (.seq (.seq (.reg (⟨(some 13), .fa 1 (.t 1), none⟩ ::⟨(some 14), .ld 1 false (.t 13), none⟩ ::⟨(some 15), .ln (.t 14), none⟩ ::⟨(some 16), .mv (.c (.int .i64 0)), none⟩ :: [])) (.block 0 (.loop (.seq (.reg (⟨(some 17), .bin .lss (.t 16) (.t 15), none⟩ :: [])) (.seq (.cond (.t 17) .skip (.exit 0)) (.seq (.block 1 (.seq (.reg (⟨(some 18), .ia 2 (.t 14) (.t 16), none⟩ ::⟨(some 19), .ld 2 true (.t 18), none⟩ ::⟨(some 5), .al [.int .i64 0, .int .i64 0], none⟩ ::⟨none, .st 2 (.t 5) (.t 19), none⟩ :: [])) (.reg (⟨(some 20), .fa 2 (.t 3), none⟩ ::⟨(some 21), .ld 1 false (.t 20), none⟩ ::⟨(some 22), .fa 0 (.t 5), none⟩ ::⟨(some 23), .ld 1 false (.t 22), none⟩ ::⟨(some 24), .fa 1 (.t 5), none⟩ ::⟨(some 25), .ld 1 false (.t 24), none⟩ ::⟨(some 26), .ia 1 (.t 21) (.t 23), none⟩ ::⟨none, .st 1 (.t 26) (.t 25), none⟩ :: [])))) (.reg (⟨(some 27), .bin .add (.t 16) (.c (.int .i64 1)), none⟩ ::⟨(some 16), .mv (.t 27), none⟩ :: [])))))))) (.seq (.draw (⟨(some 28), .fa 0 (.t 1), none⟩ ::⟨(some 29), .ld 1 false (.t 28), none⟩ ::⟨(some 30), .ld 2 true (.t 1), none⟩ ::⟨(some 31), .call (.c (.fn 59 [])) [(.t 30)], none⟩ :: []) (⟨(some 32), .call (.c (.fn 75 [])) [(.t 29), (.t 31)], none⟩ ::⟨(some 33), .fa 1 (.t 3), none⟩ ::⟨none, .st 1 (.t 33) (.t 32), none⟩ :: [])) (.seq (.reg (⟨(some 34), .ld 3 true (.t 3), none⟩ ::⟨none, .st 3 (.t 2) (.t 34), none⟩ :: [])) .ret))))))
theorem cd_devec_Of : Code1 Try.prog 23 35 ir_devec_Of [.c 3 true 2] := ⟨Try.call23, _, _, Try.func23, rfl, by kernel_rfl, by kernel_rfl, by kernel_rfl, by kernel_rfl⟩

set_option maxHeartbeats 4000000 in
theorem fs_dOf (n : Int) (l : List (Int × Int)) (hl : l.length ≤ 400000000) : FS Try.prog 23 [VC n l] (dV (sn n l) (sl n l)) := by
  refine fs_of_cvc mixed cd_devec_Of (by simp) ?_
  have c1 := fs_vRight n l (by omega)
  have c0 : FS Try.prog 25 [.int .i64 0] (DV 0 [] []) := fs_dNew 0
  cases h : isV n l with
  | false =>
    rw [h] at c1
    rw [show sn n l = 0 by unfold sn; rw [h]; rfl, show sl n l = [] by unfold sl; rw [h]; rfl]
    repeat' (conv => whnf); first
      | ((refine Or.inl ⟨by rfl, _, c1, ?_⟩))
      | ((refine Or.inl ⟨by rfl, _, c0, ?_⟩))
      | ((refine Br.beq (by rfl) ?_))
      | ((refine Br.bne (by rfl) ?_))
      | ((refine And.intro (Or.inl (Nat.zero_le _)) ?_))
      | ((refine And.intro (show _ ≤ _ from Nat.le_of_ble_eq_true rfl) ?_))
      | ((refine And.intro (by intro y hy; simp at hy; subst hy; rfl) ?_))
      | (refine Br.tt ?_)
      | (refine Br.ff ?_)
      | (refine Br.dec (fun h => ?_) (fun h => ?_)) <;> try (exfalso; omega)
      | (refine Br.neg ?_)
      | (refine Br.mk (fun h => ?_) (fun h => ?_))
      | (refine And.intro rfl ?_)
      | (refine And.intro (by omega) ?_)
      | (refine ⟨_, Or.inl ⟨⟨by omega, by omega⟩, rfl⟩, ?_⟩)
      | (refine And.intro (by simp only [lens_all, U_len, zs_len, its_len, mvI_len]; first | done | omega) ?_)
      | (refine And.intro (Nat.le_refl _) ?_)
      | fail
    first | exact rfl | exact trivial | exact ⟨rfl, trivial⟩
  | true =>
    rw [h] at c1
    have hok : OkV n l := by
      have := okV n l
      rwa [show sn n l = n by unfold sn; rw [h]; rfl, show sl n l = l by unfold sl; rw [h]; rfl] at this
    rw [hok.sn, hok.sl]
    have hal := its_len l
    have hle := hok.le
    have hn0 := hok.n0
    have hn1 := hok.n1
    have c2 := fo_dNew n
    rw [hok.clip] at c2
    have c3 := fs_vPlaces n l hl
    rw [hok.sl] at c3
    have c4 := fs_Of n (by omega) (by omega) (plsI l) (by rw [plsI_len]; omega) (ib_pls hok)
    repeat' (conv => whnf); first
      | ((refine Or.inl ⟨by rfl, _, c1, ?_⟩))
      | ((refine Or.inr (Or.inl ⟨by rfl, _, _, c2, ?_⟩)))
      | ((refine Br.beq (by rfl) ?_))
      | ((refine Br.bne (by rfl) ?_))
      | ((refine And.intro (Or.inl (Nat.zero_le _)) ?_))
      | ((refine And.intro (show _ ≤ _ from Nat.le_of_ble_eq_true rfl) ?_))
      | ((refine And.intro (by intro y hy; simp at hy; subst hy; rfl) ?_))
      | (refine Br.tt ?_)
      | (refine Br.ff ?_)
      | (refine Br.dec (fun h => ?_) (fun h => ?_)) <;> try (exfalso; omega)
      | (refine Br.neg ?_)
      | (refine Br.mk (fun h => ?_) (fun h => ?_))
      | (refine And.intro rfl ?_)
      | (refine And.intro (by omega) ?_)
      | (refine ⟨_, Or.inl ⟨⟨by omega, by omega⟩, rfl⟩, ?_⟩)
      | (refine And.intro (by simp only [lens_all, U_len, zs_len, its_len, mvI_len]; first | done | omega) ?_)
      | (refine And.intro (Nat.le_refl _) ?_)
      | fail
    refine ⟨Nat, fun k => k ≤ l.length, fun k => [(1, .ptr 0 0 0 0), (2, .ptr 1 0 0 0), (3, .ptr 4 0 0 0), (14, IL l), (15, .int .i64 (l.length : Int)), (16, .int .i64 (k : Int))],
      fun k => [.vars [.int .i64 n, IL l], .vars [.int .i64 0, .nils, .nils], .arr 1 (uw (List.replicate (wordsI n) 0)), .arr 1 (zs (setsV (List.replicate n.toNat 0) (l.take k))), .vars [.int .i64 n, .osl 2 1 0 (wordsI n), .osl 3 1 0 n.toNat]], fun _ => none, fun k => l.length - k,
      ⟨0, Nat.zero_le _, ⟨rfl, rfl, rfl, rfl, ?_, rfl, trivial⟩, ⟨⟨rfl, rfl, trivial⟩, ⟨rfl, rfl, rfl, trivial⟩, rfl, rfl, ⟨rfl, rfl, rfl, trivial⟩, trivial⟩, rfl⟩, fun k hk => ?_⟩
    · exact congrArg (SV.int .i64) (congrArg Int.ofNat hal)
    have hk : k ≤ l.length := hk
    have hsl : (setsV (List.replicate n.toNat 0) (l.take k)).length = n.toNat := by rw [setsV_len, List.length_replicate]
    by_cases hkl : k < l.length
    · obtain ⟨x, hx⟩ : ∃ x, l.getD k (0, 0) = x := ⟨_, rfl⟩
      have hxk : l[k]? = some x := by rw [← hx]; simp [hkl]
      have hxb := hok.lo x (List.mem_of_getElem? hxk)
      repeat' (conv => whnf); first
        | ((refine its_go' (i := k) (by omega) hx ?_))
        | ((refine ⟨_, zs_one (i := x.1.toNat) (by omega) (by omega), ?_⟩))
        | ((refine Br.beq (by rfl) ?_))
        | ((refine Br.bne (by rfl) ?_))
        | ((refine And.intro (Or.inl (Nat.zero_le _)) ?_))
        | ((refine And.intro (show _ ≤ _ from Nat.le_of_ble_eq_true rfl) ?_))
        | ((refine And.intro (by intro y hy; simp at hy; subst hy; rfl) ?_))
        | (refine Br.tt ?_)
        | (refine Br.ff ?_)
        | (refine Br.dec (fun h => ?_) (fun h => ?_)) <;> try (exfalso; omega)
        | (refine Br.neg ?_)
        | (refine Br.mk (fun h => ?_) (fun h => ?_))
        | (refine And.intro rfl ?_)
        | (refine And.intro (by omega) ?_)
        | (refine ⟨_, Or.inl ⟨⟨by omega, by omega⟩, rfl⟩, ?_⟩)
        | (refine And.intro (by simp only [lens_all, U_len, zs_len, its_len, mvI_len]; first | done | omega) ?_)
        | (refine And.intro (Nat.le_refl _) ?_)
        | fail
      refine ⟨k + 1, (show k + 1 ≤ l.length by omega), (show l.length - (k + 1) < l.length - k by omega), ⟨rfl, rfl, rfl, rfl, rfl, rfl, trivial⟩, ⟨⟨rfl, rfl, trivial⟩, ⟨rfl, rfl, rfl, trivial⟩, rfl, ?_, ⟨rfl, rfl, rfl, trivial⟩, ⟨(show 5 ≤ 5 by omega), rfl, rfl⟩⟩, rfl⟩
      show Blk.arr 1 ((zs (setsV (List.replicate n.toNat 0) (l.take k))).set (0 + x.1.toNat) [.int .i64 x.2]) = _
      rw [Nat.zero_add, zs_set, setsV_more hxk]
    · obtain rfl : k = l.length := by omega
      repeat' (conv => whnf); first
        | ((refine Or.inl ⟨by rfl, _, c3, ?_⟩))
        | ((refine Or.inl ⟨by rfl, _, c4, ?_⟩))
        | ((refine Br.beq (by rfl) ?_))
        | ((refine Br.bne (by rfl) ?_))
        | ((refine And.intro (Or.inl (Nat.zero_le _)) ?_))
        | ((refine And.intro (show _ ≤ _ from Nat.le_of_ble_eq_true rfl) ?_))
        | ((refine And.intro (by intro y hy; simp at hy; subst hy; rfl) ?_))
        | (refine Br.tt ?_)
        | (refine Br.ff ?_)
        | (refine Br.dec (fun h => ?_) (fun h => ?_)) <;> try (exfalso; omega)
        | (refine Br.neg ?_)
        | (refine Br.mk (fun h => ?_) (fun h => ?_))
        | (refine And.intro rfl ?_)
        | (refine And.intro (by omega) ?_)
        | (refine ⟨_, Or.inl ⟨⟨by omega, by omega⟩, rfl⟩, ?_⟩)
        | (refine And.intro (by simp only [zs_len]; first | done | omega) ?_)
        | (refine And.intro (Nat.le_refl _) ?_)
        | fail
      conv => whnf
      rw [show List.take l.length l = l from List.take_length, setsV_to hok, frz_zl (by unfold toL; rw [tab_len])]
      rfl

/-! ### Parts -/
def ptR (n : Int) (l : List (Int × Int)) (p q : Int) : Int × List (Int × Int) := if min q n ≤ max p 0 then (0, []) else (min q n - max p 0, ptI (max p 0) (min q n) l)
theorem okV_ptR {n : Int} {l : List (Int × Int)} (h : OkV n l) (p q : Int) : OkV (ptR n l p q).1 (ptR n l p q).2 := by
  unfold ptR
  split
  · exact ⟨by show (0 : Int) ≤ 0; omega, by show (0 : Int) ≤ 4096; omega, .nil, by intro x hx; cases hx⟩
  · exact okV_ptI h (by omega) (by omega) (by omega)

def ir_devec_Part : IR :=
(.seq (.reg (⟨(some 3), .bx (.t 0), none⟩ ::⟨(some 6), .al [.int .i64 0, .nils, .nils], none⟩ :: [])) (.seq (.reg (⟨(some 8), .ld 3 true (.t 3), none⟩ ::⟨(some 9), .call (.c (.fn 70 [])) [(.t 8)], none⟩ ::⟨none, .st 3 (.t 3) (.t 9), none⟩ :: [])) (.seq (.draw (⟨(some 10), .mv (.t 1), none⟩ ::⟨(some 11), .mm true [(.t 10), (.c (.int .i64 0))], none⟩ ::⟨(some 12), .mv (.t 2), none⟩ ::⟨(some 13), .fa 0 (.t 3), none⟩ ::⟨(some 14), .ld 1 false (.t 13), none⟩ ::⟨(some 15), .mm false [(.t 12), (.t 14)], none⟩ ::⟨(some 1), .mv (.t 11), none⟩ :: []) (⟨(some 2), .mv (.t 15), none⟩ :: [])) (.seq (.seq (.reg (⟨(some 16), .mv (.t 2), none⟩ ::⟨(some 17), .mv (.t 1), none⟩ ::⟨(some 18), .bin .leq (.t 16) (.t 17), none⟩ :: [])) (.cond (.t 18) (.seq (.reg (⟨(some 19), .call (.c (.fn 25 [])) [(.c (.int .i64 0))], none⟩ ::⟨none, .st 3 (.t 6) (.t 19), none⟩ :: [])) .ret) .skip)) (.seq (.reg (⟨(some 20), .mv (.t 2), none⟩ ::⟨(some 21), .mv (.t 1), none⟩ ::⟨(some 22), .bin .sub (.t 20) (.t 21), none⟩ ::⟨(some 23), .call (.c (.fn 25 [])) [(.t 22)], none⟩ ::⟨(some 7), .al [.int .i64 0, .nils, .nils], none⟩ ::⟨none, .st 3 (.t 7) (.t 23), none⟩ :: [])) (.seq (.draw (⟨(some 24), .fa 2 (.t 7), none⟩ ::⟨(some 25), .ld 1 false (.t 24), none⟩ ::⟨(some 26), .fa 2 (.t 3), none⟩ ::⟨(some 27), .ld 1 false (.t 26), none⟩ ::⟨(some 28), .mv (.t 1), none⟩ ::⟨(some 29), .mv (.t 2), none⟩ ::⟨(some 30), .sl 1 (.t 27) (some (.t 28)) (some (.t 29)) none, none⟩ :: []) (⟨(some 31), .cp 1 (.t 25) (.t 30), none⟩ :: [])) (.seq (.reg (⟨(some 32), .fa 1 (.t 3), none⟩ ::⟨(some 33), .ld 1 false (.t 32), none⟩ ::⟨(some 34), .mv (.t 1), none⟩ ::⟨(some 35), .mv (.t 2), none⟩ ::⟨(some 36), .call (.c (.fn 85 [])) [(.t 33), (.t 34), (.t 35)], none⟩ ::⟨(some 37), .fa 1 (.t 7), none⟩ ::⟨none, .st 1 (.t 37) (.t 36), none⟩ :: [])) (.seq (.reg (⟨(some 38), .ld 3 true (.t 7), none⟩ ::⟨none, .st 3 (.t 6) (.t 38), none⟩ :: [])) .ret))))))))
theorem cd_devec_Part : Code1 Try.prog 37 39 ir_devec_Part [.c 3 true 6] := ⟨Try.call37, _, _, Try.func37, rfl, by kernel_rfl, by kernel_rfl, by kernel_rfl, by kernel_rfl⟩

set_option maxHeartbeats 4000000 in
theorem fs_dPart (n : Int) (f : List Nat) (v : List Int) (p q : Int) (hn : I64 n) (_hp : I64 p) (_hq : I64 q) (hw : Wd f) (hf : f.length ≤ 1000000) (hv : v.length ≤ 1000000) :
    FS Try.prog 37 [DV n f v, .int .i64 p, .int .i64 q] (dV (ptR (dS n f v).1 (bkL (dS n f v).2.1 (dS n f v).2.2) p q).1 (ptR (dS n f v).1 (bkL (dS n f v).2.1 (dS n f v).2.2) p q).2) := by
  refine fs_of_cvc mixed cd_devec_Part (by simp) ?_
  have c1 := fs_dsure n f v hn hw hf hv
  have hok := okD_dS n v hw
  generalize (dS n f v).1 = N at *
  generalize (dS n f v).2.1 = F at *
  generalize (dS n f v).2.2 = V at *
  have hVl := zs_len V
  have hvl := hok.vl
  have hn0 := hok.n0
  have hn1 := hok.n1
  have hfl := hok.len
  have c0 : FS Try.prog 25 [.int .i64 0] (DV 0 [] []) := fs_dNew 0
  obtain ⟨t, ht⟩ : ∃ t, ptR N (bkL F V) p q = t := ⟨_, rfl⟩
  rw [ht]
  unfold ptR at ht
  obtain ⟨a, ha⟩ : ∃ a, max p 0 = a := ⟨_, rfl⟩
  obtain ⟨b, hb⟩ : ∃ b, min q N = b := ⟨_, rfl⟩
  rw [ha, hb] at ht
  have hab : 0 ≤ a ∧ b ≤ N := by omega
  by_cases h : b ≤ a
  · rw [if_pos h] at ht
    subst ht
    repeat' (conv => whnf); first
      | ((refine Or.inl ⟨by rfl, _, c1, ?_⟩))
      | ((refine Or.inl ⟨by rfl, _, c0, ?_⟩))
      | ((refine Br.beq (by rfl) ?_))
      | ((refine Br.bne (by rfl) ?_))
      | ((refine And.intro (Or.inl (Nat.zero_le _)) ?_))
      | ((refine And.intro (show _ ≤ _ from Nat.le_of_ble_eq_true rfl) ?_))
      | ((refine And.intro (by intro y hy; simp at hy; subst hy; rfl) ?_))
      | (refine Br.tt ?_)
      | (refine Br.ff ?_)
      | (refine Br.dec (fun h => ?_) (fun h => ?_)) <;> try (exfalso; omega)
      | (refine Br.neg ?_)
      | (refine Br.mk (fun h => ?_) (fun h => ?_))
      | (refine And.intro rfl ?_)
      | (refine And.intro (by omega) ?_)
      | (refine ⟨_, Or.inl ⟨⟨by omega, by omega⟩, rfl⟩, ?_⟩)
      | (refine And.intro (by simp only [lens_all, U_len, zs_len, its_len, mvI_len]; first | done | omega) ?_)
      | (refine And.intro (Nat.le_refl _) ?_)
      | fail
    first | exact rfl | exact trivial | exact ⟨rfl, trivial⟩
  · rw [if_neg h] at ht
    subst ht
    have c2 := fo_dNew (b - a)
    rw [show clipN (b - a) = b - a by unfold clipN; rw [if_neg (by omega)]] at c2
    have c3 := fs_Part F hok.wd (by omega) a b (by omega) (by omega) (by omega) (by omega)
    rw [show max a 0 = a by omega, if_neg h] at c3
    rw [← d_part hok hab.1 hab.2 (by omega)]
    subst ha hb
    repeat' (conv => whnf); first
      | ((refine Or.inl ⟨by rfl, _, c1, ?_⟩))
      | ((refine Or.inr (Or.inl ⟨by rfl, _, _, c2, ?_⟩)))
      | ((refine Or.inl ⟨by rfl, _, c3, ?_⟩))
      | ((refine And.intro (fun y hy => zs_scal V y (List.mem_of_mem_take (List.mem_of_mem_drop hy))) ?_))
      | ((refine Br.beq (by rfl) ?_))
      | ((refine Br.bne (by rfl) ?_))
      | ((refine And.intro (Or.inl (Nat.zero_le _)) ?_))
      | ((refine And.intro (show _ ≤ _ from Nat.le_of_ble_eq_true rfl) ?_))
      | ((refine And.intro (by intro y hy; simp at hy; subst hy; rfl) ?_))
      | (refine Br.tt ?_)
      | (refine Br.ff ?_)
      | (refine Br.dec (fun h => ?_) (fun h => ?_)) <;> try (exfalso; omega)
      | (refine Br.neg ?_)
      | (refine Br.mk (fun h => ?_) (fun h => ?_))
      | (refine And.intro rfl ?_)
      | (refine And.intro (by omega) ?_)
      | (refine ⟨_, Or.inl ⟨⟨by omega, by omega⟩, rfl⟩, ?_⟩)
      | (refine And.intro (by simp only [lens_all, zs_len]; first | done | omega) ?_)
      | (refine And.intro (Nat.le_refl _) ?_)
      | fail
    conv => whnf
    have e1 : List.drop (max p 0).toNat (List.take (min q N).toNat (zs V)) = zs ((V.take (min q N).toNat).drop (max p 0).toNat) := by simp [zs, List.map_take, List.map_drop]
    have e2 : (zs ((V.take (min q N).toNat).drop (max p 0).toNat)).length = (min q N - max p 0).toNat := by rw [zs_len]; simp; omega
    rw [e1, cp_all (by rw [zs_len, List.length_replicate]) e2, frz_zl (by rw [zs_len] at e2; exact e2.symm)]
    rfl

def ir_fretworkref09_Part : IR :=
(.seq (.reg (⟨(some 3), .bx (.t 0), none⟩ ::⟨(some 6), .al [.int .i64 0, .nils], none⟩ :: [])) (.seq (.reg (⟨(some 9), .ld 2 true (.t 3), none⟩ ::⟨(some 10), .call (.c (.fn 76 [])) [(.t 9)], none⟩ ::⟨none, .st 2 (.t 3) (.t 10), none⟩ :: [])) (.seq (.draw (⟨(some 11), .mv (.t 1), none⟩ ::⟨(some 12), .mm true [(.t 11), (.c (.int .i64 0))], none⟩ ::⟨(some 13), .mv (.t 2), none⟩ ::⟨(some 14), .fa 0 (.t 3), none⟩ ::⟨(some 15), .ld 1 false (.t 14), none⟩ ::⟨(some 16), .mm false [(.t 13), (.t 15)], none⟩ ::⟨(some 1), .mv (.t 12), none⟩ :: []) (⟨(some 2), .mv (.t 16), none⟩ :: [])) (.seq (.seq (.reg (⟨(some 17), .mv (.t 2), none⟩ ::⟨(some 18), .mv (.t 1), none⟩ ::⟨(some 19), .bin .leq (.t 17) (.t 18), none⟩ :: [])) (.cond (.t 19) (.seq (.reg (⟨(some 20), .bld [.int .i64 0, .nils] [], none⟩ ::⟨none, .st 2 (.t 6) (.t 20), none⟩ :: [])) .ret) .skip)) (.seq (.reg (⟨(some 21), .mv (.t 2), none⟩ ::⟨(some 22), .mv (.t 1), none⟩ ::⟨(some 23), .bin .sub (.t 21) (.t 22), none⟩ ::⟨(some 24), .bld [.int .i64 0, .nils] [(0, 1, (.t 23))], none⟩ ::⟨(some 7), .al [.int .i64 0, .nils], none⟩ ::⟨none, .st 2 (.t 7) (.t 24), none⟩ :: [])) (.seq (.seq (.reg (⟨(some 8), .mv (.c (.int .i64 0)), none⟩ :: [])) (.block 0 (.loop (.seq (.seq (.reg (⟨(some 25), .mv (.t 8), none⟩ ::⟨(some 26), .fa 1 (.t 3), none⟩ ::⟨(some 27), .ld 1 false (.t 26), none⟩ ::⟨(some 28), .ln (.t 27), none⟩ ::⟨(some 29), .bin .lss (.t 25) (.t 28), none⟩ :: [])) (.cond (.t 29) .skip (.exit 0))) (.seq (.block 1 (.seq (.reg (⟨(some 32), .fa 1 (.t 3), none⟩ ::⟨(some 33), .ld 1 false (.t 32), none⟩ ::⟨(some 34), .mv (.t 8), none⟩ ::⟨(some 35), .ia 2 (.t 33) (.t 34), none⟩ ::⟨(some 36), .fa 0 (.t 35), none⟩ ::⟨(some 37), .ld 1 false (.t 36), none⟩ ::⟨(some 38), .mv (.t 1), none⟩ ::⟨(some 39), .bin .geq (.t 37) (.t 38), none⟩ ::⟨(some 40), .mv (.t 39), none⟩ ::⟨(some 41), .fa 1 (.t 3), some (40, true)⟩ ::⟨(some 42), .ld 1 false (.t 41), some (40, true)⟩ ::⟨(some 43), .mv (.t 8), some (40, true)⟩ ::⟨(some 44), .ia 2 (.t 42) (.t 43), some (40, true)⟩ ::⟨(some 45), .fa 0 (.t 44), some (40, true)⟩ ::⟨(some 46), .ld 1 false (.t 45), some (40, true)⟩ ::⟨(some 47), .mv (.t 2), some (40, true)⟩ ::⟨(some 48), .bin .lss (.t 46) (.t 47), some (40, true)⟩ ::⟨(some 49), .pick (.t 40) (.t 48) (.c (.bool false)), none⟩ :: [])) (.cond (.t 49) (.draw (⟨(some 50), .fa 1 (.t 7), none⟩ ::⟨(some 51), .ld 1 false (.t 50), none⟩ ::⟨(some 52), .fa 1 (.t 3), none⟩ ::⟨(some 53), .ld 1 false (.t 52), none⟩ ::⟨(some 54), .mv (.t 8), none⟩ ::⟨(some 55), .ia 2 (.t 53) (.t 54), none⟩ ::⟨(some 56), .fa 0 (.t 55), none⟩ ::⟨(some 57), .ld 1 false (.t 56), none⟩ ::⟨(some 58), .mv (.t 1), none⟩ ::⟨(some 59), .bin .sub (.t 57) (.t 58), none⟩ ::⟨(some 60), .fa 1 (.t 3), none⟩ ::⟨(some 61), .ld 1 false (.t 60), none⟩ ::⟨(some 62), .mv (.t 8), none⟩ ::⟨(some 63), .ia 2 (.t 61) (.t 62), none⟩ ::⟨(some 64), .fa 1 (.t 63), none⟩ ::⟨(some 65), .ld 1 false (.t 64), none⟩ ::⟨(some 66), .bld [.int .i64 0, .int .i64 0] [(0, 1, (.t 59)), (1, 1, (.t 65))], none⟩ ::⟨(some 67), .bsl 1 2 [.int .i64 0, .int .i64 0] [(0, (.t 66))], none⟩ :: []) (⟨(some 68), .ap 2 16 (.t 51) (.t 67), none⟩ ::⟨(some 69), .fa 1 (.t 7), none⟩ ::⟨none, .st 1 (.t 69) (.t 68), none⟩ :: [])) .skip))) (.reg (⟨(some 30), .mv (.t 8), none⟩ ::⟨(some 31), .bin .add (.t 30) (.c (.int .i64 1)), none⟩ ::⟨(some 8), .mv (.t 31), none⟩ :: []))))))) (.seq (.reg (⟨(some 70), .ld 2 true (.t 7), none⟩ ::⟨none, .st 2 (.t 6) (.t 70), none⟩ :: [])) .ret)))))))
theorem cd_fretworkref09_Part : Code1 Try.prog 63 71 ir_fretworkref09_Part [.c 2 true 6] := ⟨Try.call63, _, _, Try.func63, rfl, by kernel_rfl, by kernel_rfl, by kernel_rfl, by kernel_rfl⟩

set_option maxHeartbeats 4000000 in
theorem fs_r9Part (n : Int) (l : List (Int × Int)) (p q : Int) (hl : l.length ≤ 400000000) (_hp : I64 p) (_hq : I64 q) : FS Try.prog 63 [VC n l, .int .i64 p, .int .i64 q] (VC (ptR (sn n l) (sl n l) p q).1 (ptR (sn n l) (sl n l) p q).2) := by
  refine fs_of_cvc mixed cd_fretworkref09_Part (by simp) ?_
  have c1 := fs_r9Sure n l (by omega)
  have hok := okV n l
  generalize sn n l = N at *
  generalize sl n l = A at *
  have hal := its_len A
  have hale := hok.le
  have hn0 := hok.n0
  have hn1 := hok.n1
  obtain ⟨t, ht⟩ : ∃ t, ptR N A p q = t := ⟨_, rfl⟩
  rw [ht]
  unfold ptR at ht
  by_cases h : min q N ≤ max p 0
  · rw [if_pos h] at ht
    subst ht
    repeat' (conv => whnf); first
      | ((refine Or.inl ⟨by rfl, _, c1, ?_⟩))
      | ((refine Br.beq (by rfl) ?_))
      | ((refine Br.bne (by rfl) ?_))
      | ((refine And.intro (Or.inl (Nat.zero_le _)) ?_))
      | ((refine And.intro (show _ ≤ _ from Nat.le_of_ble_eq_true rfl) ?_))
      | ((refine And.intro (by intro y hy; simp at hy; subst hy; rfl) ?_))
      | (refine Br.tt ?_)
      | (refine Br.ff ?_)
      | (refine Br.dec (fun h => ?_) (fun h => ?_)) <;> try (exfalso; omega)
      | (refine Br.neg ?_)
      | (refine Br.mk (fun h => ?_) (fun h => ?_))
      | (refine And.intro rfl ?_)
      | (refine And.intro (by omega) ?_)
      | (refine ⟨_, Or.inl ⟨⟨by omega, by omega⟩, rfl⟩, ?_⟩)
      | (refine And.intro (by simp only [lens_all, U_len, zs_len, its_len, mvI_len]; first | done | omega) ?_)
      | (refine And.intro (Nat.le_refl _) ?_)
      | fail
    first | exact rfl | exact trivial | exact ⟨rfl, trivial⟩
  · rw [if_neg h] at ht
    subst ht
    repeat' (conv => whnf); first
      | ((refine Or.inl ⟨by rfl, _, c1, ?_⟩))
      | ((refine Br.beq (by rfl) ?_))
      | ((refine Br.bne (by rfl) ?_))
      | ((refine And.intro (Or.inl (Nat.zero_le _)) ?_))
      | ((refine And.intro (show _ ≤ _ from Nat.le_of_ble_eq_true rfl) ?_))
      | ((refine And.intro (by intro y hy; simp at hy; subst hy; rfl) ?_))
      | (refine Br.tt ?_)
      | (refine Br.ff ?_)
      | (refine Br.dec (fun h => ?_) (fun h => ?_)) <;> try (exfalso; omega)
      | (refine Br.neg ?_)
      | (refine Br.mk (fun h => ?_) (fun h => ?_))
      | (refine And.intro rfl ?_)
      | (refine And.intro (by omega) ?_)
      | (refine ⟨_, Or.inl ⟨⟨by omega, by omega⟩, rfl⟩, ?_⟩)
      | (refine And.intro (by simp only [lens_all, U_len, zs_len, its_len, mvI_len]; first | done | omega) ?_)
      | (refine And.intro (Nat.le_refl _) ?_)
      | fail
    refine ⟨Nat, fun j => j ≤ A.length, fun j => [(1, .int .i64 (max p 0)), (2, .int .i64 (min q N)), (3, .ptr 0 0 0 0), (6, .ptr 1 0 0 0), (7, .ptr 2 0 0 0), (8, .int .i64 (j : Int))], fun j => [.vars [.int .i64 N, IL A], .vars [.int .i64 0, .nils], .vars [.int .i64 (min q N - max p 0), .osl 3 2 0 (ptI (max p 0) (min q N) (A.take j)).length], .arr 2 (its (ptI (max p 0) (min q N) (A.take j)))], fun _ => none, fun j => A.length - j,
      ⟨0, Nat.zero_le _, ⟨rfl, rfl, rfl, rfl, rfl, rfl, trivial⟩, ⟨⟨rfl, rfl, trivial⟩, ⟨rfl, rfl, trivial⟩, ⟨rfl, ⟨Nat.le_refl _, rfl, rfl⟩, trivial⟩, rfl, trivial⟩, rfl⟩, fun j hj => ?_⟩
    have hj : j ≤ A.length := hj
    have hpl : (ptI (max p 0) (min q N) (A.take j)).length ≤ j := by
      unfold ptI
      rw [List.length_map]
      exact Nat.le_trans (List.length_filter_le _ _) (by simp; omega)
    by_cases hja : j < A.length
    · obtain ⟨x, hx⟩ : ∃ x, A.getD j (0, 0) = x := ⟨_, rfl⟩
      have hxj : A[j]? = some x := by rw [← hx]; simp [hja]
      have hxb := hok.lo x (List.mem_of_getElem? hxj)
      have hst : ptI (max p 0) (min q N) (A.take (j + 1)) = ptI (max p 0) (min q N) (A.take j) ++ if max p 0 ≤ x.1 ∧ x.1 < min q N then [(x.1 - max p 0, x.2)] else [] := by
        unfold ptI
        rw [vtk_more hxj, List.filter_append, List.map_append]
        congr 1
        by_cases h : max p 0 ≤ x.1 ∧ x.1 < min q N
        · rw [if_pos h, List.filter_cons, if_pos (by rw [decide_eq_true h.1, decide_eq_true h.2]; rfl)]; rfl
        · rw [if_neg h, List.filter_cons, if_neg (by simpa using h)]; rfl
      repeat' (conv => whnf); first
        | ((refine its_go' (i := j) (by omega) hx ?_))
        | ((refine Br.beq (by rfl) ?_))
        | ((refine Br.bne (by rfl) ?_))
        | ((refine And.intro (Or.inl (Nat.zero_le _)) ?_))
        | ((refine And.intro (show _ ≤ _ from Nat.le_of_ble_eq_true rfl) ?_))
        | ((refine And.intro (by intro y hy; simp at hy; subst hy; rfl) ?_))
        | (refine Br.tt ?_)
        | (refine Br.ff ?_)
        | (refine Br.dec (fun h => ?_) (fun h => ?_)) <;> try (exfalso; omega)
        | (refine Br.neg ?_)
        | (refine Br.mk (fun h => ?_) (fun h => ?_))
        | (refine And.intro rfl ?_)
        | (refine And.intro (by omega) ?_)
        | (refine ⟨_, Or.inl ⟨⟨by omega, by omega⟩, rfl⟩, ?_⟩)
        | (refine And.intro (by simp only [lens_all, its_len]; first | done | omega) ?_)
        | (refine And.intro (Nat.le_refl _) ?_)
        | fail
      · rw [if_pos ⟨by omega, by omega⟩] at hst
        refine ⟨j + 1, (show j + 1 ≤ A.length by omega), (show A.length - (j + 1) < A.length - j by omega), ⟨rfl, rfl, rfl, rfl, rfl, rfl, trivial⟩, ⟨⟨rfl, rfl, trivial⟩, ⟨rfl, rfl, trivial⟩, ⟨rfl, ?_, trivial⟩, ?_, trivial⟩, rfl⟩
        · rw [hst]; exact congrArg (SV.osl 3 2 0) (by simp)
        · rw [hst, its_append]; rfl
      all_goals
        rw [if_neg (by omega), List.append_nil] at hst
        refine ⟨j + 1, (show j + 1 ≤ A.length by omega), (show A.length - (j + 1) < A.length - j by omega), ⟨rfl, rfl, rfl, rfl, rfl, rfl, trivial⟩, ⟨⟨rfl, rfl, trivial⟩, ⟨rfl, rfl, trivial⟩, ⟨rfl, ?_, trivial⟩, ?_, trivial⟩, rfl⟩
        · rw [hst]; exact rfl
        · rw [hst]; exact rfl
    · obtain rfl : j = A.length := by omega
      have e1 : A.take A.length = A := List.take_length
      repeat' (conv => whnf); first
        | ((refine Br.beq (by rfl) ?_))
        | ((refine Br.bne (by rfl) ?_))
        | ((refine And.intro (Or.inl (Nat.zero_le _)) ?_))
        | ((refine And.intro (show _ ≤ _ from Nat.le_of_ble_eq_true rfl) ?_))
        | ((refine And.intro (by intro y hy; simp at hy; subst hy; rfl) ?_))
        | (refine Br.tt ?_)
        | (refine Br.ff ?_)
        | (refine Br.dec (fun h => ?_) (fun h => ?_)) <;> try (exfalso; omega)
        | (refine Br.neg ?_)
        | (refine Br.mk (fun h => ?_) (fun h => ?_))
        | (refine And.intro rfl ?_)
        | (refine And.intro (by omega) ?_)
        | (refine ⟨_, Or.inl ⟨⟨by omega, by omega⟩, rfl⟩, ?_⟩)
        | (refine And.intro (by simp only [its_len]; first | done | omega) ?_)
        | (refine And.intro (Nat.le_refl _) ?_)
        | fail
      conv => whnf
      rw [frz_its, e1]
      rfl
end
section
open Go.RowKit
attribute [local irreducible] FS FO IT HS
end
section
open Go.RowKit
attribute [local irreducible] FS FO IT HS
end
end Go.Proofs.Ytahpfomabgfmkaa
