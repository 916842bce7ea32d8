/- Dense vectors: of items; parts; the document's functions. Dense vectors: the document's functions. Dense vectors: the document's functions, the others. Dense vectors: what the laws call; the first laws. -/
import Derived.Test.YtlbmjnammgffiaaD2
namespace Go.Proofs.Ytlbmjnammgffiaa
section
open Go.RowKit
attribute [local irreducible] FS FO IT HS

theorem OkV.clip {n : Int} {l : List (Int × Int)} (h : OkV n l) : clipN n = n := by have := h.n0; have := h.n1; unfold clipN; rw [if_neg (by omega)]
theorem ib_pls {l : List (Int × Int)} {n : Int} (h : OkV n l) : ∀ x ∈ plsI l, -9223372036854775808 ≤ x ∧ x ≤ 9223372036854775807 := fun x hx => by
  obtain ⟨y, hy, rfl⟩ := List.mem_map.1 hx
  have := h.lo y hy
  have := h.n1
  omega
theorem plsI_len (l : List (Int × Int)) : (plsI l).length = l.length := by simp [plsI]
end
section
open Go.RowKit
attribute [local irreducible] FS FO IT HS

def ir_fretworkref10_New : IR :=
(.seq (.reg (⟨(some 2), .al [.int .i64 0, .nils, .nils], none⟩ :: [])) (.seq (.seq (.reg (⟨(some 3), .mv (.t 0), none⟩ ::⟨(some 4), .bin .lss (.t 3) (.c (.int .i64 0)), none⟩ ::⟨(some 5), .mv (.t 4), none⟩ ::⟨(some 6), .mv (.t 0), some (5, false)⟩ ::⟨(some 7), .bin .gtr (.t 6) (.c (.int .i64 4096)), some (5, false)⟩ ::⟨(some 8), .pick (.t 5) (.c (.bool true)) (.t 7), none⟩ :: [])) (.cond (.t 8) (.reg (⟨(some 0), .mv (.c (.int .i64 0)), none⟩ :: [])) .skip)) (.seq (.draw (⟨(some 9), .mv (.t 0), none⟩ ::⟨(some 10), .mv (.t 0), none⟩ ::⟨(some 11), .call (.c (.fn 48 [])) [(.t 10)], none⟩ ::⟨(some 12), .mv (.t 0), none⟩ ::⟨(some 13), .mk 1 8 [.int .i64 0] (.t 12) (.t 12), none⟩ :: []) (⟨(some 14), .bld [.int .i64 0, .nils, .nils] [(0, 1, (.t 9)), (1, 1, (.t 11)), (2, 1, (.t 13))], none⟩ ::⟨none, .st 3 (.t 2) (.t 14), none⟩ :: [])) .ret)))
theorem cd_fretworkref10_New : Code1 Try.prog 21 15 ir_fretworkref10_New [.c 3 true 2] := ⟨Try.call21, _, _, Try.func21, rfl, by kernel_rfl, by kernel_rfl, by kernel_rfl, by kernel_rfl⟩

theorem fo_r10New (n : Int) : FO Try.prog 21 [.int .i64 n] (.agg [.int .i64 (clipN n), .osl 0 1 0 (wordsI (clipN n)), .osl 1 1 0 (clipN n).toNat]) [.arr 1 (uw (List.replicate (wordsI (clipN n)) 0)), .arr 1 (zs (List.replicate (clipN n).toNat 0))] := by
  refine fo_of_cvc mixed cd_fretworkref10_New (by simp) ?_
  have hb := clipN_bd n
  have c := fo_rNew (clipN n) (by omega) (by omega)
  have fin : ∀ H : List Blk, H[1]? = some (.arr 1 (uw (List.replicate (wordsI (clipN n)) 0))) → H[2]? = some (.arr 1 (List.replicate (clipN n).toNat [.int .i64 0])) → FoP H (.agg [.int .i64 (clipN n), .osl 1 1 0 (wordsI (clipN n)), .osl 2 1 0 (clipN n).toNat]) (.agg [.int .i64 (clipN n), .osl 0 1 0 (wordsI (clipN n)), .osl 1 1 0 (clipN n).toNat]) [.arr 1 (uw (List.replicate (wordsI (clipN n)) 0)), .arr 1 (zs (List.replicate (clipN n).toNat 0))] := fun H h1 h2 =>
    Or.inr (Or.inr (FoS.two 1 2 (by omega) (MatL.agg (.cons (.same _ rfl) (.cons (.osl 0 1 1 0 _ rfl) (.cons (.osl 1 2 1 0 _ rfl) .nil)))) h1 (by rw [h2, zs_rep]) rfl rfl))
  by_cases h : n < 0 ∨ 4096 < n
  · have e : clipN n = 0 := if_pos h
    rw [e] at c fin ⊢
    repeat' (conv => whnf); first
      | ((refine Or.inr (Or.inl ⟨by rfl, _, _, c, ?_⟩)))
      | ((refine Br.beq (by rfl) ?_))
      | ((refine Br.bne (by rfl) ?_))
      | ((refine And.intro (Or.inl (Nat.zero_le _)) ?_))
      | ((refine And.intro (show _ ≤ _ from Nat.le_of_ble_eq_true rfl) ?_))
      | ((refine And.intro (by intro y hy; simp at hy; subst hy; rfl) ?_))
      | (refine Br.tt ?_)
      | (refine Br.ff ?_)
      | (refine Br.dec (fun h => ?_) (fun h => ?_)) <;> try (exfalso; omega)
      | (refine Br.neg ?_)
      | (refine Br.mk (fun h => ?_) (fun h => ?_))
      | (refine And.intro rfl ?_)
      | (refine And.intro (by omega) ?_)
      | (refine ⟨_, Or.inl ⟨⟨by omega, by omega⟩, rfl⟩, ?_⟩)
      | (refine And.intro (by simp only [lens_all, U_len, zs_len, its_len, ints_len]; first | done | omega) ?_)
      | (refine And.intro (Nat.le_refl _) ?_)
      | fail
    all_goals exact fin _ rfl rfl
  · have e : clipN n = n := if_neg h
    rw [e] at c fin ⊢
    repeat' (conv => whnf); first
      | ((refine Or.inr (Or.inl ⟨by rfl, _, _, c, ?_⟩)))
      | ((refine Br.beq (by rfl) ?_))
      | ((refine Br.bne (by rfl) ?_))
      | ((refine And.intro (Or.inl (Nat.zero_le _)) ?_))
      | ((refine And.intro (show _ ≤ _ from Nat.le_of_ble_eq_true rfl) ?_))
      | ((refine And.intro (by intro y hy; simp at hy; subst hy; rfl) ?_))
      | (refine Br.tt ?_)
      | (refine Br.ff ?_)
      | (refine Br.dec (fun h => ?_) (fun h => ?_)) <;> try (exfalso; omega)
      | (refine Br.neg ?_)
      | (refine Br.mk (fun h => ?_) (fun h => ?_))
      | (refine And.intro rfl ?_)
      | (refine And.intro (by omega) ?_)
      | (refine ⟨_, Or.inl ⟨⟨by omega, by omega⟩, rfl⟩, ?_⟩)
      | (refine And.intro (by simp only [lens_all, U_len, zs_len, its_len, ints_len]; first | done | omega) ?_)
      | (refine And.intro (Nat.le_refl _) ?_)
      | fail
    all_goals exact fin _ rfl rfl
theorem fs_r10New (n : Int) : FS Try.prog 21 [.int .i64 n] (DV (clipN n) (List.replicate (wordsI (clipN n)) 0) (List.replicate (clipN n).toNat 0)) := by
  refine fs_of_fo (fo_r10New n) ?_
  refine ⟨rfl, by rw [U_len]; simp, rfl, by rw [zs_len]; simp, ?_⟩
  show SV.agg [.int .i64 (clipN n), .slc 1 (List.take (wordsI (clipN n)) (List.drop 0 (uw (List.replicate (wordsI (clipN n)) 0)))), .slc 1 (List.take (clipN n).toNat (List.drop 0 (zs (List.replicate (clipN n).toNat 0))))] = _
  rw [frz_ul (by simp), frz_zl (by simp)]; rfl

/-- ref03.Of, where the places lie in one's own block. -/
theorem hs_rOf10 (n : Int) (h0 : 0 ≤ n) (h1 : n ≤ 4096) (l : List Int) (hl : l.length ≤ 1000000000) (hlb : ∀ x ∈ l, -9223372036854775808 ≤ x ∧ x ≤ 9223372036854775807) (A : List (Int × Int)) (ws : List Nat) (v : List Int) (a b m : Nat) (hm : m = l.length) :
    HS Try.prog 44 [.int .i64 n, .osl 5 1 0 m] [.vars [.int .i64 n, IL A], .vars [.int .i64 0, .nils, .nils], .arr 1 (uw ws), .arr 1 (zs v), .vars [.int .i64 n, .osl 2 1 0 a, .osl 3 1 0 b], .arr 1 (zs l)] (U (ofN n l)) [.vars [.int .i64 n, IL A], .vars [.int .i64 0, .nils, .nils], .arr 1 (uw ws), .arr 1 (zs v), .vars [.int .i64 n, .osl 2 1 0 a, .osl 3 1 0 b], .arr 1 (zs l)] [] := by
  subst hm
  rw [ofN_eq]
  generalize hp : (fun i => if 0 ≤ i ∧ i < n ∧ i < 4096 then some i else none) = p
  refine hs_of_cvc mixed cd_fretworkref03_Of (by simp) ?_
  have hwl : wordsI n ≤ 64 := by unfold wordsI; omega
  have hzl := zs_len l
  repeat' (conv => whnf); first
    | ((refine Or.inl ⟨rfl, _, fs_rNew n (by omega) (by omega), ?_⟩))
    | ((refine Br.beq (by rfl) ?_))
    | ((refine Br.bne (by rfl) ?_))
    | ((refine And.intro (Or.inl (Nat.zero_le _)) ?_))
    | ((refine And.intro (show _ ≤ _ from Nat.le_of_ble_eq_true rfl) ?_))
    | ((refine And.intro (by intro y hy; simp at hy; subst hy; rfl) ?_))
    | (refine Br.tt ?_)
    | (refine Br.ff ?_)
    | (refine Br.dec (fun h => ?_) (fun h => ?_)) <;> try (exfalso; omega)
    | (refine Br.neg ?_)
    | (refine Br.mk (fun h => ?_) (fun h => ?_))
    | (refine And.intro rfl ?_)
    | (refine And.intro (by omega) ?_)
    | (refine ⟨_, Or.inl ⟨⟨by omega, by omega⟩, rfl⟩, ?_⟩)
    | (refine And.intro (by simp only [lens_all, U_len, zs_len, its_len, ints_len]; first | done | omega) ?_)
    | (refine And.intro (Nat.le_refl _) ?_)
    | fail
  refine ⟨Nat, fun k => k ≤ l.length, fun k => [(0, .int .i64 n), (1, .osl 5 1 0 l.length), (5, U (puts p (zeroW n) (l.take k))), (6, .int .i64 (k : Int))], fun k => [.vars [.int .i64 n, IL A], .vars [.int .i64 0, .nils, .nils], .arr 1 (uw ws), .arr 1 (zs v), .vars [.int .i64 n, .osl 2 1 0 a, .osl 3 1 0 b], .arr 1 (zs l)], fun _ => none, fun k => l.length - k, ⟨0, Nat.zero_le _, ⟨rfl, rfl, rfl, rfl, trivial⟩, ⟨⟨rfl, rfl, trivial⟩, ⟨rfl, rfl, rfl, trivial⟩, rfl, rfl, ⟨rfl, rfl, rfl, trivial⟩, rfl, trivial⟩, rfl⟩, fun k hk => ?_⟩
  have hk' : k ≤ l.length := hk
  have hwd : Wd (puts p (zeroW n) (l.take k)) := puts_wd _ _ _ (wd_zero _)
  have hlen : (puts p (zeroW n) (l.take k)).length = wordsI n := by rw [puts_len, zeroW_len]
  have next : k < l.length → puts p (zeroW n) (l.take (k + 1)) = match p (l.getD k 0) with | some j => put1 (puts p (zeroW n) (l.take k)) j | none => puts p (zeroW n) (l.take k) := fun h => puts_take p _ (getD_get 0 h)
  by_cases hkl : k < l.length
  · have next := next hkl
    have hb : -9223372036854775808 ≤ l.getD k 0 ∧ l.getD k 0 ≤ 9223372036854775807 := hlb _ (by simp [hkl])
    generalize hx : l.getD k 0 = x at *
    have hq : ∀ q, q = k → (zs l)[q]? = some [.int .i64 x] := fun q e => by rw [zs_one e hkl, hx]
    repeat' (conv => whnf); first
      | ((refine ⟨_, hq _ (by omega), ?_⟩))
      | ((refine Or.inl ⟨by rfl, _, fs_rPut _ hwd (by omega) x (by omega), ?_⟩))
      | ((refine Br.beq (by rfl) ?_))
      | ((refine Br.bne (by rfl) ?_))
      | ((refine And.intro (Or.inl (Nat.zero_le _)) ?_))
      | ((refine And.intro (show _ ≤ _ from Nat.le_of_ble_eq_true rfl) ?_))
      | ((refine And.intro (by intro y hy; simp at hy; subst hy; rfl) ?_))
      | (refine Br.tt ?_)
      | (refine Br.ff ?_)
      | (refine Br.dec (fun h => ?_) (fun h => ?_)) <;> try (exfalso; omega)
      | (refine Br.neg ?_)
      | (refine Br.mk (fun h => ?_) (fun h => ?_))
      | (refine And.intro rfl ?_)
      | (refine And.intro (by omega) ?_)
      | (refine ⟨_, Or.inl ⟨⟨by omega, by omega⟩, rfl⟩, ?_⟩)
      | (refine And.intro (by simp only [lens_all, U_len, zs_len, its_len, ints_len]; first | done | omega) ?_)
      | (refine And.intro (Nat.le_refl _) ?_)
      | fail
    · refine ⟨k + 1, (show k + 1 ≤ l.length by omega), (show l.length - (k + 1) < l.length - k by omega), ⟨rfl, rfl, ?_, rfl, trivial⟩, ⟨⟨rfl, rfl, trivial⟩, ⟨rfl, rfl, rfl, trivial⟩, rfl, rfl, ⟨rfl, rfl, rfl, trivial⟩, rfl, trivial⟩, rfl⟩
      show U (put1 (puts p (zeroW n) (l.take k)) x) = U (puts p (zeroW n) (l.take (k + 1)))
      rw [next, show p x = some x by rw [← hp]; exact if_pos ⟨by assumption, by assumption, by assumption⟩]
    all_goals
      refine ⟨k + 1, (show k + 1 ≤ l.length by omega), (show l.length - (k + 1) < l.length - k by omega), ⟨rfl, rfl, ?_, rfl, trivial⟩, ⟨⟨rfl, rfl, trivial⟩, ⟨rfl, rfl, rfl, trivial⟩, rfl, rfl, ⟨rfl, rfl, rfl, trivial⟩, rfl, trivial⟩, rfl⟩
      show U (puts p (zeroW n) (l.take k)) = U (puts p (zeroW n) (l.take (k + 1)))
      rw [next, show p x = none by rw [← hp]; exact if_neg (fun hh => h (by first | exact hh.1 | exact hh.2.1 | exact hh.2.2))]
  · obtain rfl : k = l.length := by omega
    repeat' (conv => whnf); first
      | ((refine Br.beq (by rfl) ?_))
      | ((refine Br.bne (by rfl) ?_))
      | ((refine And.intro (Or.inl (Nat.zero_le _)) ?_))
      | ((refine And.intro (show _ ≤ _ from Nat.le_of_ble_eq_true rfl) ?_))
      | ((refine And.intro (by intro y hy; simp at hy; subst hy; rfl) ?_))
      | (refine Br.tt ?_)
      | (refine Br.ff ?_)
      | (refine Br.dec (fun h => ?_) (fun h => ?_)) <;> try (exfalso; omega)
      | (refine Br.neg ?_)
      | (refine Br.mk (fun h => ?_) (fun h => ?_))
      | (refine And.intro rfl ?_)
      | (refine And.intro (by omega) ?_)
      | (refine ⟨_, Or.inl ⟨⟨by omega, by omega⟩, rfl⟩, ?_⟩)
      | (refine And.intro (by simp only [lens_all]; first | done | omega) ?_)
      | (refine And.intro (Nat.le_refl _) ?_)
      | fail
    refine ⟨?_, ⟨⟨rfl, rfl, trivial⟩, ⟨rfl, rfl, rfl, trivial⟩, rfl, rfl, ⟨rfl, rfl, rfl, trivial⟩, rfl, trivial⟩⟩
    show U (puts p (zeroW n) (l.take l.length)) = _
    rw [List.take_length]; rfl

def ir_fretworkref10_Of : IR :=
(.seq (.reg (⟨(some 1), .bx (.t 0), none⟩ ::⟨(some 2), .al [.int .i64 0, .nils, .nils], none⟩ :: [])) (.seq (.reg (⟨(some 6), .ld 2 true (.t 1), none⟩ ::⟨(some 7), .call (.c (.fn 40 [])) [(.t 6)], none⟩ ::⟨none, .st 2 (.t 1) (.t 7), none⟩ :: [])) (.seq (.reg (⟨(some 8), .fa 0 (.t 1), none⟩ ::⟨(some 9), .ld 1 false (.t 8), none⟩ ::⟨(some 10), .call (.c (.fn 21 [])) [(.t 9)], none⟩ ::⟨(some 3), .al [.int .i64 0, .nils, .nils], none⟩ ::⟨none, .st 3 (.t 3) (.t 10), none⟩ :: [])) (.seq (.reg (⟨(some 4), .mv (.c (.nils)), none⟩ :: [])) (.seq (.seq (.reg (⟨(some 5), .mv (.c (.int .i64 0)), none⟩ :: [])) (.block 0 (.loop (.seq (.seq (.reg (⟨(some 11), .mv (.t 5), none⟩ ::⟨(some 12), .fa 1 (.t 1), none⟩ ::⟨(some 13), .ld 1 false (.t 12), none⟩ ::⟨(some 14), .ln (.t 13), none⟩ ::⟨(some 15), .bin .lss (.t 11) (.t 14), none⟩ :: [])) (.cond (.t 15) .skip (.exit 0))) (.seq (.block 1 (.seq (.reg (⟨(some 18), .mv (.t 4), none⟩ ::⟨(some 19), .fa 1 (.t 1), none⟩ ::⟨(some 20), .ld 1 false (.t 19), none⟩ ::⟨(some 21), .mv (.t 5), none⟩ ::⟨(some 22), .ia 2 (.t 20) (.t 21), none⟩ ::⟨(some 23), .fa 0 (.t 22), none⟩ ::⟨(some 24), .ld 1 false (.t 23), none⟩ ::⟨(some 25), .bsl 1 1 [.int .i64 0] [(0, (.t 24))], none⟩ ::⟨(some 26), .ap 1 8 (.t 18) (.t 25), none⟩ ::⟨(some 4), .mv (.t 26), none⟩ :: [])) (.draw (⟨(some 27), .fa 2 (.t 3), none⟩ ::⟨(some 28), .ld 1 false (.t 27), none⟩ ::⟨(some 29), .fa 1 (.t 1), none⟩ ::⟨(some 30), .ld 1 false (.t 29), none⟩ ::⟨(some 31), .mv (.t 5), none⟩ ::⟨(some 32), .ia 2 (.t 30) (.t 31), none⟩ ::⟨(some 33), .fa 0 (.t 32), none⟩ ::⟨(some 34), .ld 1 false (.t 33), none⟩ ::⟨(some 35), .fa 1 (.t 1), none⟩ ::⟨(some 36), .ld 1 false (.t 35), none⟩ ::⟨(some 37), .mv (.t 5), none⟩ ::⟨(some 38), .ia 2 (.t 36) (.t 37), none⟩ ::⟨(some 39), .fa 1 (.t 38), none⟩ ::⟨(some 40), .ld 1 false (.t 39), none⟩ :: []) (⟨(some 41), .ia 1 (.t 28) (.t 34), none⟩ ::⟨none, .st 1 (.t 41) (.t 40), none⟩ :: [])))) (.reg (⟨(some 16), .mv (.t 5), none⟩ ::⟨(some 17), .bin .add (.t 16) (.c (.int .i64 1)), none⟩ ::⟨(some 5), .mv (.t 17), none⟩ :: []))))))) (.seq (.reg (⟨(some 42), .fa 0 (.t 1), none⟩ ::⟨(some 43), .ld 1 false (.t 42), none⟩ ::⟨(some 44), .mv (.t 4), none⟩ ::⟨(some 45), .call (.c (.fn 44 [])) [(.t 43), (.t 44)], none⟩ ::⟨(some 46), .fa 1 (.t 3), none⟩ ::⟨none, .st 1 (.t 46) (.t 45), none⟩ :: [])) (.seq (.reg (⟨(some 47), .ld 3 true (.t 3), none⟩ ::⟨none, .st 3 (.t 2) (.t 47), none⟩ :: [])) .ret)))))))
theorem cd_fretworkref10_Of : Code1 Try.prog 16 48 ir_fretworkref10_Of [.c 3 true 2] := ⟨Try.call16, _, _, Try.func16, rfl, by kernel_rfl, by kernel_rfl, by kernel_rfl, by kernel_rfl⟩

set_option maxHeartbeats 4000000 in
theorem fs_r10Of (n : Int) (l : List (Int × Int)) (hl : l.length ≤ 400000000) : FS Try.prog 16 [VC n l] (dV (sn n l) (sl n l)) := by
  refine fs_of_cvc mixed cd_fretworkref10_Of (by simp) ?_
  have c1 := fs_r9Sure n l (by omega)
  have hok := okV n l
  generalize sn n l = N at *
  generalize sl n l = A at *
  have hal := its_len A
  have hle := hok.le
  have hn0 := hok.n0
  have hn1 := hok.n1
  have c2 := fo_r10New N
  rw [hok.clip] at c2
  have hpl := plsI_len A
  have hzp := zs_len (plsI A)
  have c4 := fs_rOf N (by omega) (by omega) (plsI A) (by rw [plsI_len]; omega) (ib_pls hok)
  repeat' (conv => whnf); first
    | ((refine Or.inl ⟨by rfl, _, c1, ?_⟩))
    | ((refine Or.inr (Or.inl ⟨by rfl, _, _, c2, ?_⟩)))
    | ((refine Br.beq (by rfl) ?_))
    | ((refine Br.bne (by rfl) ?_))
    | ((refine And.intro (Or.inl (Nat.zero_le _)) ?_))
    | ((refine And.intro (show _ ≤ _ from Nat.le_of_ble_eq_true rfl) ?_))
    | ((refine And.intro (by intro y hy; simp at hy; subst hy; rfl) ?_))
    | (refine Br.tt ?_)
    | (refine Br.ff ?_)
    | (refine Br.dec (fun h => ?_) (fun h => ?_)) <;> try (exfalso; omega)
    | (refine Br.neg ?_)
    | (refine Br.mk (fun h => ?_) (fun h => ?_))
    | (refine And.intro rfl ?_)
    | (refine And.intro (by omega) ?_)
    | (refine ⟨_, Or.inl ⟨⟨by omega, by omega⟩, rfl⟩, ?_⟩)
    | (refine And.intro (by simp only [lens_all, U_len, zs_len, its_len, ints_len]; first | done | omega) ?_)
    | (refine And.intro (Nat.le_refl _) ?_)
    | fail
  refine ⟨Nat, fun k => k ≤ A.length, fun k => [(1, .ptr 0 0 0 0), (2, .ptr 1 0 0 0), (3, .ptr 4 0 0 0), (4, .osl 5 1 0 k), (5, .int .i64 (k : Int))],
    fun k => [.vars [.int .i64 N, IL A], .vars [.int .i64 0, .nils, .nils], .arr 1 (uw (List.replicate (wordsI N) 0)), .arr 1 (zs (setsV (List.replicate N.toNat 0) (A.take k))), .vars [.int .i64 N, .osl 2 1 0 (wordsI N), .osl 3 1 0 N.toNat], .arr 1 (zs (plsI (A.take k)))], fun _ => none, fun k => A.length - k,
    ⟨0, Nat.zero_le _, ⟨rfl, rfl, rfl, ⟨Nat.le_refl _, rfl, rfl⟩, rfl, trivial⟩, ⟨⟨rfl, rfl, trivial⟩, ⟨rfl, rfl, rfl, trivial⟩, rfl, rfl, ⟨rfl, rfl, rfl, trivial⟩, rfl, trivial⟩, rfl⟩, fun k hk => ?_⟩
  have hk : k ≤ A.length := hk
  have hsl : (setsV (List.replicate N.toNat 0) (A.take k)).length = N.toNat := by rw [setsV_len, List.length_replicate]
  have hpk : (zs (plsI (A.take k))).length = k := by simp [zs, plsI]; omega
  by_cases hkl : k < A.length
  · obtain ⟨x, hx⟩ : ∃ x, A.getD k (0, 0) = x := ⟨_, rfl⟩
    have hxk : A[k]? = some x := by rw [← hx]; simp [hkl]
    have hxb := hok.lo x (List.mem_of_getElem? hxk)
    repeat' (conv => whnf); first
      | ((refine its_go' (i := k) (by omega) hx ?_))
      | ((refine ⟨_, zs_one (i := x.1.toNat) (by omega) (by omega), ?_⟩))
      | ((refine Br.beq (by rfl) ?_))
      | ((refine Br.bne (by rfl) ?_))
      | ((refine And.intro (Or.inl (Nat.zero_le _)) ?_))
      | ((refine And.intro (show _ ≤ _ from Nat.le_of_ble_eq_true rfl) ?_))
      | ((refine And.intro (by intro y hy; simp at hy; subst hy; rfl) ?_))
      | (refine Br.tt ?_)
      | (refine Br.ff ?_)
      | (refine Br.dec (fun h => ?_) (fun h => ?_)) <;> try (exfalso; omega)
      | (refine Br.neg ?_)
      | (refine Br.mk (fun h => ?_) (fun h => ?_))
      | (refine And.intro rfl ?_)
      | (refine And.intro (by omega) ?_)
      | (refine ⟨_, Or.inl ⟨⟨by omega, by omega⟩, rfl⟩, ?_⟩)
      | (refine And.intro (by simp only [lens_all, its_len]; first | done | omega) ?_)
      | (refine And.intro (Nat.le_refl _) ?_)
      | fail
    refine ⟨k + 1, (show k + 1 ≤ A.length by omega), (show A.length - (k + 1) < A.length - k by omega), ⟨rfl, rfl, rfl, rfl, rfl, trivial⟩, ⟨⟨rfl, rfl, trivial⟩, ⟨rfl, rfl, rfl, trivial⟩, rfl, ?_, ⟨rfl, rfl, rfl, trivial⟩, ?_, trivial⟩, rfl⟩
    · show Blk.arr 1 ((zs (setsV (List.replicate N.toNat 0) (A.take k))).set (0 + x.1.toNat) [.int .i64 x.2]) = _
      rw [Nat.zero_add, zs_set, setsV_more hxk]
    · refine congrArg (Blk.arr 1) ?_
      rw [vtk_more hxk]
      unfold zs plsI
      rw [List.map_append, List.map_append]; rfl
  · obtain rfl : k = A.length := by omega
    have e1 : A.take A.length = A := List.take_length
    have c5 := hs_rOf10 N hn0 hn1 (plsI (A.take A.length)) (by rw [e1]; omega) (by rw [e1]; exact ib_pls hok) A (List.replicate (wordsI N) 0) (setsV (List.replicate N.toNat 0) (A.take A.length)) (wordsI N) N.toNat A.length (by rw [e1]; exact hpl.symm)
    repeat' (conv => whnf); first
      | ((refine Or.inr (Or.inr (Or.inr (Or.inl ⟨_, _, [], c5, by simp, ?_⟩)))))
      | ((refine Br.beq (by rfl) ?_))
      | ((refine Br.bne (by rfl) ?_))
      | ((refine And.intro (Or.inl (Nat.zero_le _)) ?_))
      | ((refine And.intro (show _ ≤ _ from Nat.le_of_ble_eq_true rfl) ?_))
      | ((refine And.intro (by intro y hy; simp at hy; subst hy; rfl) ?_))
      | (refine Br.tt ?_)
      | (refine Br.ff ?_)
      | (refine Br.dec (fun h => ?_) (fun h => ?_)) <;> try (exfalso; omega)
      | (refine Br.neg ?_)
      | (refine Br.mk (fun h => ?_) (fun h => ?_))
      | (refine And.intro rfl ?_)
      | (refine And.intro (by omega) ?_)
      | (refine ⟨_, Or.inl ⟨⟨by omega, by omega⟩, rfl⟩, ?_⟩)
      | (refine And.intro (by simp only [zs_len]; first | done | omega) ?_)
      | (refine And.intro (Nat.le_refl _) ?_)
      | fail
    conv => whnf
    rw [e1, setsV_to hok, frz_zl (by unfold toL; rw [tab_len])]
    rfl
end
section
open Go.RowKit
attribute [local irreducible] FS FO IT HS

theorem in_go {l : List Nat} {q i b : Nat} {K : List SV → Prop} (hq : q = i) (hv : l[i]? = some b) (h : K [.int .i64 (b : Int)]) : ∀ x, (ints l)[q]? = some x → K x := fun x hx => by
  subst hq
  simp only [ints, List.getElem?_map, hv, Option.map_some, Option.some.injEq] at hx
  rw [← hx]; exact h

def ir_fretworkref10_Back : IR :=
(.seq (.reg (⟨(some 1), .bx (.t 0), none⟩ ::⟨(some 2), .al [.int .i64 0, .nils], none⟩ :: [])) (.seq (.seq (.reg (⟨(some 6), .ld 3 true (.t 1), none⟩ ::⟨(some 7), .call (.c (.fn 65 [])) [(.t 6)], none⟩ ::⟨(some 8), .un .not (.t 7), none⟩ :: [])) (.cond (.t 8) (.seq (.reg (⟨(some 9), .bld [.int .i64 0, .nils] [], none⟩ ::⟨none, .st 2 (.t 2) (.t 9), none⟩ :: [])) .ret) .skip)) (.seq (.reg (⟨(some 10), .fa 0 (.t 1), none⟩ ::⟨(some 11), .ld 1 false (.t 10), none⟩ ::⟨(some 12), .bld [.int .i64 0, .nils] [(0, 1, (.t 11))], none⟩ ::⟨(some 3), .al [.int .i64 0, .nils], none⟩ ::⟨none, .st 2 (.t 3) (.t 12), none⟩ :: [])) (.seq (.reg (⟨(some 13), .fa 1 (.t 1), none⟩ ::⟨(some 14), .ld 1 false (.t 13), none⟩ ::⟨(some 15), .call (.c (.fn 66 [])) [(.t 14)], none⟩ ::⟨(some 4), .mv (.t 15), none⟩ :: [])) (.seq (.seq (.reg (⟨(some 5), .mv (.c (.int .i64 0)), none⟩ :: [])) (.block 0 (.loop (.seq (.seq (.reg (⟨(some 16), .mv (.t 5), none⟩ ::⟨(some 17), .mv (.t 4), none⟩ ::⟨(some 18), .ln (.t 17), none⟩ ::⟨(some 19), .bin .lss (.t 16) (.t 18), none⟩ :: [])) (.cond (.t 19) .skip (.exit 0))) (.seq (.block 1 (.draw (⟨(some 22), .fa 1 (.t 3), none⟩ ::⟨(some 23), .ld 1 false (.t 22), none⟩ ::⟨(some 24), .mv (.t 4), none⟩ ::⟨(some 25), .mv (.t 5), none⟩ ::⟨(some 26), .ia 1 (.t 24) (.t 25), none⟩ ::⟨(some 27), .ld 1 false (.t 26), none⟩ ::⟨(some 28), .fa 2 (.t 1), none⟩ ::⟨(some 29), .ld 1 false (.t 28), none⟩ ::⟨(some 30), .mv (.t 4), none⟩ ::⟨(some 31), .mv (.t 5), none⟩ ::⟨(some 32), .ia 1 (.t 30) (.t 31), none⟩ ::⟨(some 33), .ld 1 false (.t 32), none⟩ ::⟨(some 34), .ia 1 (.t 29) (.t 33), none⟩ ::⟨(some 35), .ld 1 false (.t 34), none⟩ ::⟨(some 36), .bld [.int .i64 0, .int .i64 0] [(0, 1, (.t 27)), (1, 1, (.t 35))], none⟩ ::⟨(some 37), .bsl 1 2 [.int .i64 0, .int .i64 0] [(0, (.t 36))], none⟩ :: []) (⟨(some 38), .ap 2 16 (.t 23) (.t 37), none⟩ ::⟨(some 39), .fa 1 (.t 3), none⟩ ::⟨none, .st 1 (.t 39) (.t 38), none⟩ :: []))) (.reg (⟨(some 20), .mv (.t 5), none⟩ ::⟨(some 21), .bin .add (.t 20) (.c (.int .i64 1)), none⟩ ::⟨(some 5), .mv (.t 21), none⟩ :: []))))))) (.seq (.reg (⟨(some 40), .ld 2 true (.t 3), none⟩ ::⟨none, .st 2 (.t 2) (.t 40), none⟩ :: [])) .ret))))))
theorem cd_fretworkref10_Back : Code1 Try.prog 30 41 ir_fretworkref10_Back [.c 2 true 2] := ⟨Try.call30, _, _, Try.func30, rfl, by kernel_rfl, by kernel_rfl, by kernel_rfl, by kernel_rfl⟩

set_option maxHeartbeats 4000000 in
theorem fs_r10Back (n : Int) (f : List Nat) (v : List Int) (hn : I64 n) (hw : Wd f) (hf : f.length ≤ 1000000) (hv : v.length ≤ 1000000) : FS Try.prog 30 [DV n f v] (VC (dS n f v).1 (bkL (dS n f v).2.1 (dS n f v).2.2)) := by
  refine fs_of_cvc mixed cd_fretworkref10_Back (by simp) ?_
  have c1 := fs_r10Right n f v hn hw hf hv
  cases hR : dR n f v with
  | false =>
    rw [hR] at c1
    have e : dS n f v = (0, [], []) := by unfold dS; rw [hR]; rfl
    rw [e]
    repeat' (conv => whnf); first
      | ((refine Or.inl ⟨by rfl, _, c1, ?_⟩))
      | ((refine Br.beq (by rfl) ?_))
      | ((refine Br.bne (by rfl) ?_))
      | ((refine And.intro (Or.inl (Nat.zero_le _)) ?_))
      | ((refine And.intro (show _ ≤ _ from Nat.le_of_ble_eq_true rfl) ?_))
      | ((refine And.intro (by intro y hy; simp at hy; subst hy; rfl) ?_))
      | (refine Br.tt ?_)
      | (refine Br.ff ?_)
      | (refine Br.dec (fun h => ?_) (fun h => ?_)) <;> try (exfalso; omega)
      | (refine Br.neg ?_)
      | (refine Br.mk (fun h => ?_) (fun h => ?_))
      | (refine And.intro rfl ?_)
      | (refine And.intro (by omega) ?_)
      | (refine ⟨_, Or.inl ⟨⟨by omega, by omega⟩, rfl⟩, ?_⟩)
      | (refine And.intro (by simp only [lens_all, U_len, zs_len, its_len, ints_len]; first | done | omega) ?_)
      | (refine And.intro (Nat.le_refl _) ?_)
      | fail
    all_goals first | exact rfl | exact trivial | exact ⟨rfl, trivial⟩
  | true =>
    rw [hR] at c1
    have hok := okD_of hw hR
    rw [hok.dS]
    have hvl := hok.vl
    have hn1 := hok.n1
    have hzl := zs_len v
    have hil := ints_len (bits f)
    have c2 := fs_rList f hw hf
    have hbl : (bkL f v).length = (bits f).length := by simp [bkL]
    have hble := (okV_bkL hok).le
    repeat' (conv => whnf); first
      | ((refine Or.inl ⟨by rfl, _, c1, ?_⟩))
      | ((refine Or.inl ⟨by rfl, _, c2, ?_⟩))
      | ((refine Br.beq (by rfl) ?_))
      | ((refine Br.bne (by rfl) ?_))
      | ((refine And.intro (Or.inl (Nat.zero_le _)) ?_))
      | ((refine And.intro (show _ ≤ _ from Nat.le_of_ble_eq_true rfl) ?_))
      | ((refine And.intro (by intro y hy; simp at hy; subst hy; rfl) ?_))
      | (refine Br.tt ?_)
      | (refine Br.ff ?_)
      | (refine Br.dec (fun h => ?_) (fun h => ?_)) <;> try (exfalso; omega)
      | (refine Br.neg ?_)
      | (refine Br.mk (fun h => ?_) (fun h => ?_))
      | (refine And.intro rfl ?_)
      | (refine And.intro (by omega) ?_)
      | (refine ⟨_, Or.inl ⟨⟨by omega, by omega⟩, rfl⟩, ?_⟩)
      | (refine And.intro (by simp only [lens_all, U_len, zs_len, its_len, ints_len]; first | done | omega) ?_)
      | (refine And.intro (Nat.le_refl _) ?_)
      | fail
    refine ⟨Nat, fun k => k ≤ (bits f).length, fun k => [(1, .ptr 0 0 0 0), (2, .ptr 1 0 0 0), (3, .ptr 2 0 0 0), (4, I (bits f)), (5, .int .i64 (k : Int))], fun k => [.vars [.int .i64 n, U f, Z v], .vars [.int .i64 0, .nils], .vars [.int .i64 n, .osl 3 2 0 k], .arr 2 (its ((bkL f v).take k))], fun _ => none, fun k => (bits f).length - k,
      ⟨0, Nat.zero_le _, ⟨rfl, rfl, rfl, rfl, rfl, trivial⟩, ⟨⟨rfl, rfl, rfl, trivial⟩, ⟨rfl, rfl, trivial⟩, ⟨rfl, ⟨Nat.le_refl _, rfl, rfl⟩, trivial⟩, rfl, trivial⟩, rfl⟩, fun k hk => ?_⟩
    have hk : k ≤ (bits f).length := hk
    have htl : (its ((bkL f v).take k)).length = k := by rw [its_len, List.length_take]; omega
    by_cases hkl : k < (bits f).length
    · obtain ⟨b, hb⟩ : ∃ b, (bits f)[k]? = some b := ⟨_, List.getElem?_eq_getElem hkl⟩
      have hbn := hok.top b ((bits_mem hw).1 (List.mem_of_getElem? hb)).2
      have hbk : (bkL f v)[k]? = some ((b : Int), v.getD b 0) := by simp [bkL, hb]
      repeat' (conv => whnf); first
        | ((refine in_go (i := k) (by omega) hb ?_))
        | ((refine zs_go (i := b) (by omega) rfl ?_))
        | ((refine Br.beq (by rfl) ?_))
        | ((refine Br.bne (by rfl) ?_))
        | ((refine And.intro (Or.inl (Nat.zero_le _)) ?_))
        | ((refine And.intro (show _ ≤ _ from Nat.le_of_ble_eq_true rfl) ?_))
        | ((refine And.intro (by intro y hy; simp at hy; subst hy; rfl) ?_))
        | (refine Br.tt ?_)
        | (refine Br.ff ?_)
        | (refine Br.dec (fun h => ?_) (fun h => ?_)) <;> try (exfalso; omega)
        | (refine Br.neg ?_)
        | (refine Br.mk (fun h => ?_) (fun h => ?_))
        | (refine And.intro rfl ?_)
        | (refine And.intro (by omega) ?_)
        | (refine ⟨_, Or.inl ⟨⟨by omega, by omega⟩, rfl⟩, ?_⟩)
        | (refine And.intro (by simp only [lens_all, ints_len]; first | done | omega) ?_)
        | (refine And.intro (Nat.le_refl _) ?_)
        | fail
      refine ⟨k + 1, (show k + 1 ≤ (bits f).length by omega), (show (bits f).length - (k + 1) < (bits f).length - k by omega), ⟨rfl, rfl, rfl, rfl, rfl, trivial⟩, ⟨⟨rfl, rfl, rfl, trivial⟩, ⟨rfl, rfl, trivial⟩, ⟨rfl, rfl, trivial⟩, ?_, trivial⟩, rfl⟩
      refine congrArg (Blk.arr 2) ?_
      rw [vtk_more hbk, its_append]; rfl
    · obtain rfl : k = (bits f).length := by omega
      repeat' (conv => whnf); first
        | ((refine Br.beq (by rfl) ?_))
        | ((refine Br.bne (by rfl) ?_))
        | ((refine And.intro (Or.inl (Nat.zero_le _)) ?_))
        | ((refine And.intro (show _ ≤ _ from Nat.le_of_ble_eq_true rfl) ?_))
        | ((refine And.intro (by intro y hy; simp at hy; subst hy; rfl) ?_))
        | (refine Br.tt ?_)
        | (refine Br.ff ?_)
        | (refine Br.dec (fun h => ?_) (fun h => ?_)) <;> try (exfalso; omega)
        | (refine Br.neg ?_)
        | (refine Br.mk (fun h => ?_) (fun h => ?_))
        | (refine And.intro rfl ?_)
        | (refine And.intro (by omega) ?_)
        | (refine ⟨_, Or.inl ⟨⟨by omega, by omega⟩, rfl⟩, ?_⟩)
        | (refine And.intro (by simp only [lens_all, U_len, zs_len, its_len, ints_len]; first | done | omega) ?_)
        | (refine And.intro (Nat.le_refl _) ?_)
        | fail
      conv => whnf
      rw [← hbl, show (bkL f v).take (bkL f v).length = bkL f v from List.take_length, frz_its]
      rfl
end
section
open Go.RowKit
attribute [local irreducible] FS FO IT HS

section
variable {n : Int} {l : List (Int × Int)} (h : OkV n l)
include h
theorem OkV.i64 : I64 n := by have := h.n0; have := h.n1; unfold I64; omega
theorem dl_f : (toF n l).length ≤ 1000000 := by have := (okD_to h).len; omega
theorem dl_v : (toL n l).length ≤ 1000000 := by have := (okD_to h).vl; have := h.n1; omega
end
theorem dNew_V (n : Int) : DV (clipN n) (List.replicate (wordsI (clipN n)) 0) (List.replicate (clipN n).toNat 0) = dV (clipN n) [] := by
  unfold dV
  have e1 : toF (clipN n) [] = List.replicate (wordsI (clipN n)) 0 := rfl
  have e2 : toL (clipN n) [] = List.replicate (clipN n).toNat 0 := by
    unfold toL
    refine (tab_ext (by simp) fun i hi => ?_).symm
    rw [List.getElem?_replicate, if_pos hi]; rfl
  rw [e1, e2]
theorem fv_rNew (n : Int) : FS Try.prog 21 [.int .i64 n] (dV (clipN n) []) := by rw [← dNew_V]; exact fs_r10New n
theorem okV_nil {n : Int} (h0 : 0 ≤ n) (h1 : n ≤ 4096) : OkV n [] := ⟨h0, h1, .nil, fun x hx => by cases hx⟩
theorem I64c {n : Int} (h : (decide (-9223372036854775808 ≤ n) && decide (n ≤ 9223372036854775807)) = true) : I64 n := by
  rw [Bool.and_eq_true, decide_eq_true_eq, decide_eq_true_eq] at h; exact h
end
end Go.Proofs.Ytlbmjnammgffiaa
