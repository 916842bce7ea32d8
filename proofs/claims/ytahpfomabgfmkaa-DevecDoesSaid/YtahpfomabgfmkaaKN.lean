/- At some places alone: the document's, which hands over a slice of its own. At some places alone: the document's, which hands over a slice of its own. The law on what dense vectors do. -/
import Derived.Test.YtahpfomabgfmkaaKM
namespace Go.Proofs.Ytahpfomabgfmkaa
section
open Go.RowKit
attribute [local irreducible] FS FO IT HS

/-! The blocks of the caller are told with each: what it hands over is its own. -/
section
variable (n0 : Int) (f0 : List Nat) (v0 : List Int) (N : Int) (B A : List (Int × Int)) (m : Nat)
theorem hs_XSure (h : OkV N A) (hm : m = A.length) : HS Try.prog 76 [.agg [.int .i64 N, .osl 4 2 0 m]] [.vars [.int .i64 n0, U f0, Z v0], .vars [.int .i64 0, .nils, .nils], .vars [.int .i64 N, IL B], .vars [.int .i64 N, .osl 4 2 0 m], .arr 2 (its A), .vars [.int .i64 N, .osl 4 2 0 m], .vars [.int .i64 0, .nils, .nils]] (.agg [.int .i64 N, .osl 4 2 0 m]) [.vars [.int .i64 n0, U f0, Z v0], .vars [.int .i64 0, .nils, .nils], .vars [.int .i64 N, IL B], .vars [.int .i64 N, .osl 4 2 0 m], .arr 2 (its A), .vars [.int .i64 N, .osl 4 2 0 m], .vars [.int .i64 0, .nils, .nils]] [] := by
  subst hm
  refine hs_of_cvc mixed cd_fretworkref09_Sure (by simp) ?_
  have hle := h.le
  have c := fs_r9Right N A (by omega)
  rw [h.isV] at c
  have hal := its_len A
  repeat' (conv => whnf); first
    | ((refine Or.inr (Or.inr (Or.inl (lend_vec rfl hal.symm rfl rfl c rfl ?_)))))
    | ((refine Br.beq (by rfl) ?_))
    | ((refine Br.bne (by rfl) ?_))
    | ((refine And.intro (Or.inl (Nat.zero_le _)) ?_))
    | ((refine And.intro (show _ ≤ _ from Nat.le_of_ble_eq_true rfl) ?_))
    | (refine Br.tt ?_)
    | (refine Br.ff ?_)
    | (refine Br.dec (fun h => ?_) (fun h => ?_)) <;> try (exfalso; omega)
    | (refine Br.neg ?_)
    | (refine Br.mk (fun h => ?_) (fun h => ?_))
    | (refine And.intro rfl ?_)
    | (refine And.intro (by omega) ?_)
    | (refine ⟨_, Or.inl ⟨⟨by omega, by omega⟩, rfl⟩, ?_⟩)
    | (refine And.intro (by simp only [lens_all]; first | done | omega) ?_)
    | (refine And.intro (Nat.le_refl _) ?_)
    | fail
  exact ⟨⟨rfl, rfl, rfl, trivial⟩, ⟨rfl, rfl, rfl, trivial⟩, ⟨rfl, rfl, trivial⟩, ⟨rfl, rfl, trivial⟩, rfl, ⟨rfl, rfl, trivial⟩, ⟨rfl, rfl, rfl, trivial⟩, ⟨Nat.le_refl _, rfl, rfl⟩⟩

theorem hs_XOf3 (h0 : 0 ≤ N) (h1 : N ≤ 4096) (l : List Int) (hl : l.length ≤ 1000000000) (hlb : ∀ x ∈ l, -9223372036854775808 ≤ x ∧ x ≤ 9223372036854775807) (ws : List Nat) (v : List Int) (a b j : Nat) (hj : j = l.length) :
    HS Try.prog 77 [.int .i64 N, .osl 10 1 0 j] [.vars [.int .i64 n0, U f0, Z v0], .vars [.int .i64 0, .nils, .nils], .vars [.int .i64 N, IL B], .vars [.int .i64 N, .osl 4 2 0 m], .arr 2 (its A), .vars [.int .i64 N, .osl 4 2 0 m], .vars [.int .i64 0, .nils, .nils], .arr 1 (uw ws), .arr 1 (zs v), .vars [.int .i64 N, .osl 7 1 0 a, .osl 8 1 0 b], .arr 1 (zs l)] (U (ofN N l)) [.vars [.int .i64 n0, U f0, Z v0], .vars [.int .i64 0, .nils, .nils], .vars [.int .i64 N, IL B], .vars [.int .i64 N, .osl 4 2 0 m], .arr 2 (its A), .vars [.int .i64 N, .osl 4 2 0 m], .vars [.int .i64 0, .nils, .nils], .arr 1 (uw ws), .arr 1 (zs v), .vars [.int .i64 N, .osl 7 1 0 a, .osl 8 1 0 b], .arr 1 (zs l)] [] := by
  subst hj
  rw [ofN_eq]
  generalize hp : (fun i => if 0 ≤ i ∧ i < N ∧ i < 4096 then some i else none) = p
  refine hs_of_cvc mixed cd_fretworkref03_Of (by simp) ?_
  have hwl : wordsI N ≤ 64 := by unfold wordsI; omega
  have hzl := zs_len l
  repeat' (conv => whnf); first
    | ((refine Or.inl ⟨rfl, _, fs_rNew N (by omega) (by omega), ?_⟩))
    | ((refine Br.beq (by rfl) ?_))
    | ((refine Br.bne (by rfl) ?_))
    | ((refine And.intro (Or.inl (Nat.zero_le _)) ?_))
    | ((refine And.intro (show _ ≤ _ from Nat.le_of_ble_eq_true rfl) ?_))
    | (refine Br.tt ?_)
    | (refine Br.ff ?_)
    | (refine Br.dec (fun h => ?_) (fun h => ?_)) <;> try (exfalso; omega)
    | (refine Br.neg ?_)
    | (refine Br.mk (fun h => ?_) (fun h => ?_))
    | (refine And.intro rfl ?_)
    | (refine And.intro (by omega) ?_)
    | (refine ⟨_, Or.inl ⟨⟨by omega, by omega⟩, rfl⟩, ?_⟩)
    | (refine And.intro (by simp only [lens_all, U_len, zs_len, its_len, ints_len]; first | done | omega) ?_)
    | (refine And.intro (Nat.le_refl _) ?_)
    | fail
  refine ⟨Nat, fun k => k ≤ l.length, fun k => [(0, .int .i64 N), (1, .osl 10 1 0 l.length), (5, U (puts p (zeroW N) (l.take k))), (6, .int .i64 (k : Int))], fun k => [.vars [.int .i64 n0, U f0, Z v0], .vars [.int .i64 0, .nils, .nils], .vars [.int .i64 N, IL B], .vars [.int .i64 N, .osl 4 2 0 m], .arr 2 (its A), .vars [.int .i64 N, .osl 4 2 0 m], .vars [.int .i64 0, .nils, .nils], .arr 1 (uw ws), .arr 1 (zs v), .vars [.int .i64 N, .osl 7 1 0 a, .osl 8 1 0 b], .arr 1 (zs l)], fun _ => none, fun k => l.length - k, ⟨0, Nat.zero_le _, ⟨rfl, rfl, rfl, rfl, trivial⟩, ⟨⟨rfl, rfl, rfl, trivial⟩, ⟨rfl, rfl, rfl, trivial⟩, ⟨rfl, rfl, trivial⟩, ⟨rfl, rfl, trivial⟩, rfl, ⟨rfl, rfl, trivial⟩, ⟨rfl, rfl, rfl, trivial⟩, rfl, rfl, ⟨rfl, rfl, rfl, trivial⟩, rfl, trivial⟩, rfl⟩, fun k hk => ?_⟩
  have hk' : k ≤ l.length := hk
  have hwd : Wd (puts p (zeroW N) (l.take k)) := puts_wd _ _ _ (wd_zero _)
  have hlen : (puts p (zeroW N) (l.take k)).length = wordsI N := by rw [puts_len, zeroW_len]
  have next : k < l.length → puts p (zeroW N) (l.take (k + 1)) = match p (l.getD k 0) with | some j => put1 (puts p (zeroW N) (l.take k)) j | none => puts p (zeroW N) (l.take k) := fun h => puts_take p _ (getD_get 0 h)
  by_cases hkl : k < l.length
  · have next := next hkl
    have hb : -9223372036854775808 ≤ l.getD k 0 ∧ l.getD k 0 ≤ 9223372036854775807 := hlb _ (by simp [hkl])
    generalize hx : l.getD k 0 = x at *
    have hq : ∀ q, q = k → (zs l)[q]? = some [.int .i64 x] := fun q e => by rw [zs_one e hkl, hx]
    repeat' (conv => whnf); first
      | ((refine ⟨_, hq _ (by omega), ?_⟩))
      | ((refine Or.inl ⟨by rfl, _, fs_rPut _ hwd (by omega) x (by omega), ?_⟩))
      | ((refine Br.beq (by rfl) ?_))
      | ((refine Br.bne (by rfl) ?_))
      | ((refine And.intro (Or.inl (Nat.zero_le _)) ?_))
      | ((refine And.intro (show _ ≤ _ from Nat.le_of_ble_eq_true rfl) ?_))
      | (refine Br.tt ?_)
      | (refine Br.ff ?_)
      | (refine Br.dec (fun h => ?_) (fun h => ?_)) <;> try (exfalso; omega)
      | (refine Br.neg ?_)
      | (refine Br.mk (fun h => ?_) (fun h => ?_))
      | (refine And.intro rfl ?_)
      | (refine And.intro (by omega) ?_)
      | (refine ⟨_, Or.inl ⟨⟨by omega, by omega⟩, rfl⟩, ?_⟩)
      | (refine And.intro (by simp only [lens_all, U_len, zs_len, its_len, ints_len]; first | done | omega) ?_)
      | (refine And.intro (Nat.le_refl _) ?_)
      | fail
    · refine ⟨k + 1, (show k + 1 ≤ l.length by omega), (show l.length - (k + 1) < l.length - k by omega), ⟨rfl, rfl, ?_, rfl, trivial⟩, ⟨⟨rfl, rfl, rfl, trivial⟩, ⟨rfl, rfl, rfl, trivial⟩, ⟨rfl, rfl, trivial⟩, ⟨rfl, rfl, trivial⟩, rfl, ⟨rfl, rfl, trivial⟩, ⟨rfl, rfl, rfl, trivial⟩, rfl, rfl, ⟨rfl, rfl, rfl, trivial⟩, rfl, trivial⟩, rfl⟩
      show U (put1 (puts p (zeroW N) (l.take k)) x) = U (puts p (zeroW N) (l.take (k + 1)))
      rw [next, show p x = some x by rw [← hp]; exact if_pos ⟨by assumption, by assumption, by assumption⟩]
    all_goals
      refine ⟨k + 1, (show k + 1 ≤ l.length by omega), (show l.length - (k + 1) < l.length - k by omega), ⟨rfl, rfl, ?_, rfl, trivial⟩, ⟨⟨rfl, rfl, rfl, trivial⟩, ⟨rfl, rfl, rfl, trivial⟩, ⟨rfl, rfl, trivial⟩, ⟨rfl, rfl, trivial⟩, rfl, ⟨rfl, rfl, trivial⟩, ⟨rfl, rfl, rfl, trivial⟩, rfl, rfl, ⟨rfl, rfl, rfl, trivial⟩, rfl, trivial⟩, rfl⟩
      show U (puts p (zeroW N) (l.take k)) = U (puts p (zeroW N) (l.take (k + 1)))
      rw [next, show p x = none by rw [← hp]; exact if_neg (fun hh => h (by first | exact hh.1 | exact hh.2.1 | exact hh.2.2))]
  · obtain rfl : k = l.length := by omega
    repeat' (conv => whnf); first
      | ((refine Br.beq (by rfl) ?_))
      | ((refine Br.bne (by rfl) ?_))
      | ((refine And.intro (Or.inl (Nat.zero_le _)) ?_))
      | ((refine And.intro (show _ ≤ _ from Nat.le_of_ble_eq_true rfl) ?_))
      | (refine Br.tt ?_)
      | (refine Br.ff ?_)
      | (refine Br.dec (fun h => ?_) (fun h => ?_)) <;> try (exfalso; omega)
      | (refine Br.neg ?_)
      | (refine Br.mk (fun h => ?_) (fun h => ?_))
      | (refine And.intro rfl ?_)
      | (refine And.intro (by omega) ?_)
      | (refine ⟨_, Or.inl ⟨⟨by omega, by omega⟩, rfl⟩, ?_⟩)
      | (refine And.intro (by simp only [lens_all]; first | done | omega) ?_)
      | (refine And.intro (Nat.le_refl _) ?_)
      | fail
    refine ⟨?_, ⟨⟨rfl, rfl, rfl, trivial⟩, ⟨rfl, rfl, rfl, trivial⟩, ⟨rfl, rfl, trivial⟩, ⟨rfl, rfl, trivial⟩, rfl, ⟨rfl, rfl, trivial⟩, ⟨rfl, rfl, rfl, trivial⟩, rfl, rfl, ⟨rfl, rfl, rfl, trivial⟩, rfl, trivial⟩⟩
    show U (puts p (zeroW N) (l.take l.length)) = _
    rw [List.take_length]; rfl
end
end
section
open Go.RowKit
attribute [local irreducible] FS FO IT HS

section
variable (n0 : Int) (f0 : List Nat) (v0 : List Int) (N : Int) (B A : List (Int × Int)) (m : Nat)
set_option maxHeartbeats 4000000 in
theorem hs_XOf10 (hok : OkV N A) (hm : m = A.length) : HS Try.prog 24 [.agg [.int .i64 N, .osl 4 2 0 m]] [.vars [.int .i64 n0, U f0, Z v0], .vars [.int .i64 0, .nils, .nils], .vars [.int .i64 N, IL B], .vars [.int .i64 N, .osl 4 2 0 m], .arr 2 (its A)] (.agg [.int .i64 N, U (toF N A), .osl 8 1 0 N.toNat]) [.vars [.int .i64 n0, U f0, Z v0], .vars [.int .i64 0, .nils, .nils], .vars [.int .i64 N, IL B], .vars [.int .i64 N, .osl 4 2 0 m], .arr 2 (its A), .vars [.int .i64 N, .osl 4 2 0 m], .vars [.int .i64 N, U (toF N A), .osl 8 1 0 N.toNat], .arr 1 (uw (List.replicate (wordsI N) 0)), .arr 1 (zs (toL N A)), .vars [.int .i64 N, U (toF N A), .osl 8 1 0 N.toNat], .arr 1 (zs (plsI A))] [] := by
  subst hm
  refine hs_of_cvc mixed cd_fretworkref10_Of (by simp) ?_
  have hle := hok.le
  have hn0 := hok.n0
  have hn1 := hok.n1
  have hal := its_len A
  have c1 := hs_XSure n0 f0 v0 N B A A.length hok rfl
  have c2 := fo_r10New N
  rw [hok.clip] at c2
  have hpl := plsI_len A
  have hzp := zs_len (plsI A)
  repeat' (conv => whnf); first
    | ((refine Or.inr (Or.inr (Or.inr (Or.inl ⟨_, _, [], c1, by simp, ?_⟩)))))
    | ((refine Or.inr (Or.inl ⟨by rfl, _, _, c2, ?_⟩)))
    | ((refine Br.beq (by rfl) ?_))
    | ((refine Br.bne (by rfl) ?_))
    | ((refine And.intro (Or.inl (Nat.zero_le _)) ?_))
    | ((refine And.intro (show _ ≤ _ from Nat.le_of_ble_eq_true rfl) ?_))
    | ((refine And.intro (by intro y hy; simp at hy; subst hy; rfl) ?_))
    | (refine Br.tt ?_)
    | (refine Br.ff ?_)
    | (refine Br.dec (fun h => ?_) (fun h => ?_)) <;> try (exfalso; omega)
    | (refine Br.neg ?_)
    | (refine Br.mk (fun h => ?_) (fun h => ?_))
    | (refine And.intro rfl ?_)
    | (refine And.intro (by omega) ?_)
    | (refine ⟨_, Or.inl ⟨⟨by omega, by omega⟩, rfl⟩, ?_⟩)
    | (refine And.intro (by simp only [lens_all, U_len, zs_len, its_len, ints_len]; first | done | omega) ?_)
    | (refine And.intro (Nat.le_refl _) ?_)
    | fail
  refine ⟨Nat, fun k => k ≤ A.length, fun k => [(1, .ptr 5 0 0 0), (2, .ptr 6 0 0 0), (3, .ptr 9 0 0 0), (4, .osl 10 1 0 k), (5, .int .i64 (k : Int))],
    fun k => [.vars [.int .i64 n0, U f0, Z v0], .vars [.int .i64 0, .nils, .nils], .vars [.int .i64 N, IL B], .vars [.int .i64 N, .osl 4 2 0 A.length], .arr 2 (its A), .vars [.int .i64 N, .osl 4 2 0 A.length], .vars [.int .i64 0, .nils, .nils], .arr 1 (uw (List.replicate (wordsI N) 0)), .arr 1 (zs (setsV (List.replicate N.toNat 0) (A.take k))), .vars [.int .i64 N, .osl 7 1 0 (wordsI N), .osl 8 1 0 N.toNat], .arr 1 (zs (plsI (A.take k)))], fun _ => none, fun k => A.length - k,
    ⟨0, Nat.zero_le _, ⟨rfl, rfl, rfl, ⟨Nat.le_refl _, rfl, rfl⟩, rfl, trivial⟩, ⟨⟨rfl, rfl, rfl, trivial⟩, ⟨rfl, rfl, rfl, trivial⟩, ⟨rfl, rfl, trivial⟩, ⟨rfl, rfl, trivial⟩, rfl, ⟨rfl, rfl, trivial⟩, ⟨rfl, rfl, rfl, trivial⟩, rfl, rfl, ⟨rfl, rfl, rfl, trivial⟩, rfl, trivial⟩, rfl⟩, fun k hk => ?_⟩
  have hk : k ≤ A.length := hk
  have hsl : (setsV (List.replicate N.toNat 0) (A.take k)).length = N.toNat := by rw [setsV_len, List.length_replicate]
  have hpk : (zs (plsI (A.take k))).length = k := by simp [zs, plsI]; omega
  by_cases hkl : k < A.length
  · obtain ⟨x, hxk⟩ : ∃ x, A[k]? = some x := ⟨_, List.getElem?_eq_getElem hkl⟩
    have hxb := hok.lo x (List.mem_of_getElem? hxk)
    have hq : ∀ q, q = k → (its A)[q]? = some [.int .i64 x.1, .int .i64 x.2] := fun q e => its_one (by rw [e]; exact hxk)
    repeat' (conv => whnf); first
      | ((refine ⟨_, hq _ (by omega), ?_⟩))
      | ((refine ⟨_, zs_one (i := x.1.toNat) (by omega) (by omega), ?_⟩))
      | ((refine Br.beq (by rfl) ?_))
      | ((refine Br.bne (by rfl) ?_))
      | ((refine And.intro (Or.inl (Nat.zero_le _)) ?_))
      | ((refine And.intro (show _ ≤ _ from Nat.le_of_ble_eq_true rfl) ?_))
      | ((refine And.intro (by intro y hy; simp at hy; subst hy; rfl) ?_))
      | (refine Br.tt ?_)
      | (refine Br.ff ?_)
      | (refine Br.dec (fun h => ?_) (fun h => ?_)) <;> try (exfalso; omega)
      | (refine Br.neg ?_)
      | (refine Br.mk (fun h => ?_) (fun h => ?_))
      | (refine And.intro rfl ?_)
      | (refine And.intro (by omega) ?_)
      | (refine ⟨_, Or.inl ⟨⟨by omega, by omega⟩, rfl⟩, ?_⟩)
      | (refine And.intro (by simp only [lens_all]; first | done | omega) ?_)
      | (refine And.intro (Nat.le_refl _) ?_)
      | fail
    refine ⟨k + 1, (show k + 1 ≤ A.length by omega), (show A.length - (k + 1) < A.length - k by omega), ⟨rfl, rfl, rfl, rfl, rfl, trivial⟩, ⟨⟨rfl, rfl, rfl, trivial⟩, ⟨rfl, rfl, rfl, trivial⟩, ⟨rfl, rfl, trivial⟩, ⟨rfl, rfl, trivial⟩, rfl, ⟨rfl, rfl, trivial⟩, ⟨rfl, rfl, rfl, trivial⟩, rfl, ?_, ⟨rfl, rfl, rfl, trivial⟩, ?_, trivial⟩, rfl⟩
    · show Blk.arr 1 ((zs (setsV (List.replicate N.toNat 0) (A.take k))).set (0 + x.1.toNat) [.int .i64 x.2]) = _
      rw [Nat.zero_add, zs_set, setsV_more hxk]
    · refine congrArg (Blk.arr 1) ?_
      rw [vtk_more hxk]
      unfold zs plsI
      rw [List.map_append, List.map_append]; rfl
  · obtain rfl : k = A.length := by omega
    have e1 : A.take A.length = A := List.take_length
    have c5 := hs_XOf3 n0 f0 v0 N B A A.length hn0 hn1 (plsI (A.take A.length)) (by rw [e1]; omega) (by rw [e1]; exact ib_pls hok) (List.replicate (wordsI N) 0) (setsV (List.replicate N.toNat 0) (A.take A.length)) (wordsI N) N.toNat A.length (by rw [e1]; exact hpl.symm)
    repeat' (conv => whnf); first
      | ((refine Or.inr (Or.inr (Or.inr (Or.inl ⟨_, _, [], c5, by simp, ?_⟩)))))
      | ((refine Br.beq (by rfl) ?_))
      | ((refine Br.bne (by rfl) ?_))
      | ((refine And.intro (Or.inl (Nat.zero_le _)) ?_))
      | ((refine And.intro (show _ ≤ _ from Nat.le_of_ble_eq_true rfl) ?_))
      | ((refine And.intro (by intro y hy; simp at hy; subst hy; rfl) ?_))
      | (refine Br.tt ?_)
      | (refine Br.ff ?_)
      | (refine Br.dec (fun h => ?_) (fun h => ?_)) <;> try (exfalso; omega)
      | (refine Br.neg ?_)
      | (refine Br.mk (fun h => ?_) (fun h => ?_))
      | (refine And.intro rfl ?_)
      | (refine And.intro (by omega) ?_)
      | (refine ⟨_, Or.inl ⟨⟨by omega, by omega⟩, rfl⟩, ?_⟩)
      | (refine And.intro (by simp only [lens_all]; first | done | omega) ?_)
      | (refine And.intro (Nat.le_refl _) ?_)
      | fail
    have eU : SV.slc 1 (uw (ofN N (plsI (A.take A.length)))) = SV.slc 1 (uw (toF N A)) := by rw [e1]; rfl
    have eV : Blk.arr 1 (zs (setsV (List.replicate N.toNat 0) (A.take A.length))) = Blk.arr 1 (zs (toL N A)) := by rw [e1, setsV_to hok]
    have eP : Blk.arr 1 (zs (plsI (A.take A.length))) = Blk.arr 1 (zs (plsI A)) := by rw [e1]
    exact ⟨congrArg (fun x => SV.agg [.int .i64 N, x, .osl 8 1 0 N.toNat]) eU, ⟨⟨rfl, rfl, rfl, trivial⟩, ⟨rfl, rfl, rfl, trivial⟩, ⟨rfl, rfl, trivial⟩, ⟨rfl, rfl, trivial⟩, rfl, ⟨rfl, rfl, trivial⟩, ⟨rfl, eU, rfl, trivial⟩, rfl, eV, ⟨rfl, eU, rfl, trivial⟩, eP, trivial⟩⟩
end

/-- The first j items, those at some places alone. -/
def onL (g : List Nat) (B : List (Int × Int)) (j : Nat) : List (Int × Int) := (B.take j).filter fun x => hasI g x.1
theorem onL_le (g : List Nat) (B : List (Int × Int)) (j : Nat) : (onL g B j).length ≤ j := Nat.le_trans (List.length_filter_le _ _) (by simp; omega)
theorem onL_more {g : List Nat} {B : List (Int × Int)} {j : Nat} {x : Int × Int} (h : B[j]? = some x) : onL g B (j + 1) = onL g B j ++ if hasI g x.1 = true then [x] else [] := by
  unfold onL
  rw [vtk_more h, List.filter_append]
  exact congrArg (((B.take j).filter fun x => hasI g x.1) ++ ·) List.filter_cons

def ir_fretworkref10_Only : IR :=
(.seq (.reg (⟨(some 2), .bx (.t 0), none⟩ ::⟨(some 4), .al [.int .i64 0, .nils, .nils], none⟩ :: [])) (.seq (.reg (⟨(some 8), .ld 3 true (.t 2), none⟩ ::⟨(some 9), .call (.c (.fn 21 [])) [(.t 8)], none⟩ ::⟨(some 5), .al [.int .i64 0, .nils], none⟩ ::⟨none, .st 2 (.t 5) (.t 9), none⟩ :: [])) (.seq (.reg (⟨(some 10), .fa 0 (.t 5), none⟩ ::⟨(some 11), .ld 1 false (.t 10), none⟩ ::⟨(some 12), .bld [.int .i64 0, .nils] [(0, 1, (.t 11))], none⟩ ::⟨(some 6), .al [.int .i64 0, .nils], none⟩ ::⟨none, .st 2 (.t 6) (.t 12), none⟩ :: [])) (.seq (.seq (.reg (⟨(some 7), .mv (.c (.int .i64 0)), none⟩ :: [])) (.block 0 (.loop (.seq (.seq (.reg (⟨(some 13), .mv (.t 7), none⟩ ::⟨(some 14), .fa 1 (.t 5), none⟩ ::⟨(some 15), .ld 1 false (.t 14), none⟩ ::⟨(some 16), .ln (.t 15), none⟩ ::⟨(some 17), .bin .lss (.t 13) (.t 16), none⟩ :: [])) (.cond (.t 17) .skip (.exit 0))) (.seq (.block 1 (.seq (.reg (⟨(some 20), .mv (.t 1), none⟩ ::⟨(some 21), .fa 1 (.t 5), none⟩ ::⟨(some 22), .ld 1 false (.t 21), none⟩ ::⟨(some 23), .mv (.t 7), none⟩ ::⟨(some 24), .ia 2 (.t 22) (.t 23), none⟩ ::⟨(some 25), .fa 0 (.t 24), none⟩ ::⟨(some 26), .ld 1 false (.t 25), none⟩ ::⟨(some 27), .call (.c (.fn 68 [])) [(.t 20), (.t 26)], none⟩ :: [])) (.cond (.t 27) (.draw (⟨(some 28), .fa 1 (.t 6), none⟩ ::⟨(some 29), .ld 1 false (.t 28), none⟩ ::⟨(some 30), .fa 1 (.t 5), none⟩ ::⟨(some 31), .ld 1 false (.t 30), none⟩ ::⟨(some 32), .mv (.t 7), none⟩ ::⟨(some 33), .ia 2 (.t 31) (.t 32), none⟩ ::⟨(some 34), .ld 2 true (.t 33), none⟩ ::⟨(some 35), .bsl 1 2 [.int .i64 0, .int .i64 0] [(0, (.t 34))], none⟩ :: []) (⟨(some 36), .ap 2 16 (.t 29) (.t 35), none⟩ ::⟨(some 37), .fa 1 (.t 6), none⟩ ::⟨none, .st 1 (.t 37) (.t 36), none⟩ :: [])) .skip))) (.reg (⟨(some 18), .mv (.t 7), none⟩ ::⟨(some 19), .bin .add (.t 18) (.c (.int .i64 1)), none⟩ ::⟨(some 7), .mv (.t 19), none⟩ :: []))))))) (.seq (.reg (⟨(some 38), .ld 2 true (.t 6), none⟩ ::⟨(some 39), .call (.c (.fn 24 [])) [(.t 38)], none⟩ ::⟨none, .st 3 (.t 4) (.t 39), none⟩ :: [])) .ret)))))
theorem cd_fretworkref10_Only : Code1 Try.prog 36 40 ir_fretworkref10_Only [.c 3 true 4] := ⟨Try.call36, _, _, Try.func36, rfl, by kernel_rfl, by kernel_rfl, by kernel_rfl, by kernel_rfl⟩

set_option maxHeartbeats 4000000 in
theorem fs_r10Only (n : Int) (f : List Nat) (v : List Int) (g : List Nat) (hn : I64 n) (hw : Wd f) (hg : Wd g) (hf : f.length ≤ 1000000) (hv : v.length ≤ 1000000) (hgl : g.length ≤ 1000000) : FS Try.prog 36 [DV n f v, U g] (dV (dS n f v).1 ((bkL (dS n f v).2.1 (dS n f v).2.2).filter fun x => hasI g x.1)) := by
  refine fs_of_cvc mixed cd_fretworkref10_Only (by simp) ?_
  have c1 := fs_r10Back n f v hn hw hf hv
  have hok := okV_bkL (okD_dS n v hw)
  generalize bkL (dS n f v).2.1 (dS n f v).2.2 = B at *
  generalize (dS n f v).1 = N at *
  have hbl := its_len B
  have hle := hok.le
  have hn0 := hok.n0
  have hn1 := hok.n1
  repeat' (conv => whnf); first
    | ((refine Or.inl ⟨by rfl, _, c1, ?_⟩))
    | ((refine Br.beq (by rfl) ?_))
    | ((refine Br.bne (by rfl) ?_))
    | ((refine And.intro (Or.inl (Nat.zero_le _)) ?_))
    | ((refine And.intro (show _ ≤ _ from Nat.le_of_ble_eq_true rfl) ?_))
    | ((refine And.intro (by intro y hy; simp at hy; subst hy; rfl) ?_))
    | (refine Br.tt ?_)
    | (refine Br.ff ?_)
    | (refine Br.dec (fun h => ?_) (fun h => ?_)) <;> try (exfalso; omega)
    | (refine Br.neg ?_)
    | (refine Br.mk (fun h => ?_) (fun h => ?_))
    | (refine And.intro rfl ?_)
    | (refine And.intro (by omega) ?_)
    | (refine ⟨_, Or.inl ⟨⟨by omega, by omega⟩, rfl⟩, ?_⟩)
    | (refine And.intro (by simp only [lens_all, U_len, zs_len, its_len, ints_len]; first | done | omega) ?_)
    | (refine And.intro (Nat.le_refl _) ?_)
    | fail
  refine ⟨Nat, fun j => j ≤ B.length, fun j => [(1, U g), (2, .ptr 0 0 0 0), (4, .ptr 1 0 0 0), (5, .ptr 2 0 0 0), (6, .ptr 3 0 0 0), (7, .int .i64 (j : Int))], fun j => [.vars [.int .i64 n, U f, Z v], .vars [.int .i64 0, .nils, .nils], .vars [.int .i64 N, IL B], .vars [.int .i64 N, .osl 4 2 0 (onL g B j).length], .arr 2 (its (onL g B j))], fun _ => none, fun j => B.length - j,
    ⟨0, Nat.zero_le _, ⟨rfl, rfl, rfl, rfl, rfl, rfl, trivial⟩, ⟨⟨rfl, rfl, rfl, trivial⟩, ⟨rfl, rfl, rfl, trivial⟩, ⟨rfl, rfl, trivial⟩, ⟨rfl, ⟨Nat.le_refl _, rfl, rfl⟩, trivial⟩, rfl, trivial⟩, rfl⟩, fun j hj => ?_⟩
  have hj : j ≤ B.length := hj
  have hol := onL_le g B j
  have hil := its_len (onL g B j)
  by_cases hjl : j < B.length
  · obtain ⟨x, hx⟩ : ∃ x, B.getD j (0, 0) = x := ⟨_, rfl⟩
    have hxj : B[j]? = some x := by rw [← hx]; simp [hjl]
    have hxb := hok.lo x (List.mem_of_getElem? hxj)
    have hst := onL_more (g := g) hxj
    have c2 := fs_rHas g hg hgl x.1 (by omega)
    cases hh : hasI g x.1 with
    | true =>
      rw [hh] at c2 hst
      rw [if_pos rfl] at hst
      repeat' (conv => whnf); first
        | ((refine its_go' (i := j) (by omega) hx ?_))
        | ((refine Or.inl ⟨by rfl, _, c2, ?_⟩))
        | ((refine Br.beq (by rfl) ?_))
        | ((refine Br.bne (by rfl) ?_))
        | ((refine And.intro (Or.inl (Nat.zero_le _)) ?_))
        | ((refine And.intro (show _ ≤ _ from Nat.le_of_ble_eq_true rfl) ?_))
        | ((refine And.intro (by intro y hy; simp at hy; subst hy; rfl) ?_))
        | (refine Br.tt ?_)
        | (refine Br.ff ?_)
        | (refine Br.dec (fun h => ?_) (fun h => ?_)) <;> try (exfalso; omega)
        | (refine Br.neg ?_)
        | (refine Br.mk (fun h => ?_) (fun h => ?_))
        | (refine And.intro rfl ?_)
        | (refine And.intro (by omega) ?_)
        | (refine ⟨_, Or.inl ⟨⟨by omega, by omega⟩, rfl⟩, ?_⟩)
        | (refine And.intro (by simp only [lens_all]; first | done | omega) ?_)
        | (refine And.intro (Nat.le_refl _) ?_)
        | fail
      refine ⟨j + 1, (show j + 1 ≤ B.length by omega), (show B.length - (j + 1) < B.length - j by omega), ⟨rfl, rfl, rfl, rfl, rfl, rfl, trivial⟩, ⟨⟨rfl, rfl, rfl, trivial⟩, ⟨rfl, rfl, rfl, trivial⟩, ⟨rfl, rfl, trivial⟩, ⟨rfl, ?_, trivial⟩, ?_, trivial⟩, rfl⟩
      · rw [hst]; exact congrArg (SV.osl 4 2 0) (by simp)
      · rw [hst, its_append]; rfl
    | false =>
      rw [hh] at c2 hst
      rw [if_neg (by simp), List.append_nil] at hst
      repeat' (conv => whnf); first
        | ((refine its_go' (i := j) (by omega) hx ?_))
        | ((refine Or.inl ⟨by rfl, _, c2, ?_⟩))
        | ((refine Br.beq (by rfl) ?_))
        | ((refine Br.bne (by rfl) ?_))
        | ((refine And.intro (Or.inl (Nat.zero_le _)) ?_))
        | ((refine And.intro (show _ ≤ _ from Nat.le_of_ble_eq_true rfl) ?_))
        | ((refine And.intro (by intro y hy; simp at hy; subst hy; rfl) ?_))
        | (refine Br.tt ?_)
        | (refine Br.ff ?_)
        | (refine Br.dec (fun h => ?_) (fun h => ?_)) <;> try (exfalso; omega)
        | (refine Br.neg ?_)
        | (refine Br.mk (fun h => ?_) (fun h => ?_))
        | (refine And.intro rfl ?_)
        | (refine And.intro (by omega) ?_)
        | (refine ⟨_, Or.inl ⟨⟨by omega, by omega⟩, rfl⟩, ?_⟩)
        | (refine And.intro (by simp only [lens_all, U_len, zs_len, its_len, ints_len]; first | done | omega) ?_)
        | (refine And.intro (Nat.le_refl _) ?_)
        | fail
      refine ⟨j + 1, (show j + 1 ≤ B.length by omega), (show B.length - (j + 1) < B.length - j by omega), ⟨rfl, rfl, rfl, rfl, rfl, rfl, trivial⟩, ⟨⟨rfl, rfl, rfl, trivial⟩, ⟨rfl, rfl, rfl, trivial⟩, ⟨rfl, rfl, trivial⟩, ⟨rfl, ?_, trivial⟩, ?_, trivial⟩, rfl⟩
      · rw [hst]; exact rfl
      · rw [hst]; exact rfl
  · obtain rfl : j = B.length := by omega
    have e1 : onL g B B.length = B.filter fun x => hasI g x.1 := by unfold onL; rw [List.take_length]
    have hA : OkV N (onL g B B.length) := by
      rw [e1]
      exact ⟨hok.n0, hok.n1, hok.up.filter _, fun x hx => hok.lo x (List.mem_filter.1 hx).1⟩
    have c3 := hs_XOf10 n f v N B (onL g B B.length) _ hA rfl
    rw [← e1]
    have htl : (toL N (onL g B B.length)).length = N.toNat := by unfold toL; rw [tab_len]
    repeat' (conv => whnf); first
      | ((refine Or.inr (Or.inr (Or.inr (Or.inl ⟨_, _, [], c3, by simp, ?_⟩)))))
      | ((refine Br.beq (by rfl) ?_))
      | ((refine Br.bne (by rfl) ?_))
      | ((refine And.intro (Or.inl (Nat.zero_le _)) ?_))
      | ((refine And.intro (show _ ≤ _ from Nat.le_of_ble_eq_true rfl) ?_))
      | ((refine And.intro (by intro y hy; simp at hy; subst hy; rfl) ?_))
      | (refine Br.tt ?_)
      | (refine Br.ff ?_)
      | (refine Br.dec (fun h => ?_) (fun h => ?_)) <;> try (exfalso; omega)
      | (refine Br.neg ?_)
      | (refine Br.mk (fun h => ?_) (fun h => ?_))
      | (refine And.intro rfl ?_)
      | (refine And.intro (by omega) ?_)
      | (refine ⟨_, Or.inl ⟨⟨by omega, by omega⟩, rfl⟩, ?_⟩)
      | (refine And.intro (by simp only [zs_len]; first | done | omega) ?_)
      | (refine And.intro (Nat.le_refl _) ?_)
      | fail
    conv => whnf
    rw [frz_zl htl.symm]
    rfl
end
section
open Go.RowKit
attribute [local irreducible] FS FO IT HS

def ir_fretworklaw10_DevecDoes : IR :=
(.seq (.reg (⟨(some 3), .bx (.t 0), none⟩ ::⟨(some 4), .bx (.t 1), none⟩ ::⟨(some 6), .mv (.c (.bool false)), none⟩ :: [])) (.seq (.seq (.reg (⟨(some 11), .ld 3 true (.t 3), none⟩ ::⟨(some 12), .call (.c (.fn 16 [])) [(.t 11)], none⟩ ::⟨(some 13), .un .not (.t 12), none⟩ ::⟨(some 14), .mv (.t 13), none⟩ ::⟨(some 15), .mv (.t 2), some (14, false)⟩ ::⟨(some 16), .ln (.t 15), some (14, false)⟩ ::⟨(some 17), .bin .gtr (.t 16) (.c (.int .i64 5)), some (14, false)⟩ ::⟨(some 18), .pick (.t 14) (.c (.bool true)) (.t 17), none⟩ :: [])) (.cond (.t 18) (.seq (.reg (⟨(some 19), .call (.c (.fn 15 [])) [], none⟩ ::⟨(some 6), .mv (.t 19), none⟩ :: [])) .ret) .skip)) (.seq (.reg (⟨(some 21), .ld 3 true (.t 3), none⟩ ::⟨(some 22), .iaA 2 2 (.t 4) (.c (.int .i64 0)), none⟩ ::⟨(some 23), .fa 0 (.t 22), none⟩ ::⟨(some 24), .ld 1 false (.t 23), none⟩ ::⟨(some 25), .call (.c (.fn 27 [])) [(.t 21), (.t 24)], none⟩ ::⟨(some 20), .mv (.t 25), none⟩ ::⟨(some 26), .ex 0 (.t 20), none⟩ ::⟨(some 27), .ex 1 (.t 20), none⟩ ::⟨(some 7), .mv (.t 26), none⟩ ::⟨(some 8), .mv (.t 27), none⟩ :: [])) (.seq (.reg (⟨(some 29), .ld 3 true (.t 3), none⟩ ::⟨(some 30), .iaA 2 2 (.t 4) (.c (.int .i64 0)), none⟩ ::⟨(some 31), .fa 0 (.t 30), none⟩ ::⟨(some 32), .ld 1 false (.t 31), none⟩ ::⟨(some 33), .call (.c (.fn 28 [])) [(.t 29), (.t 32)], none⟩ ::⟨(some 28), .mv (.t 33), none⟩ ::⟨(some 34), .ex 0 (.t 28), none⟩ ::⟨(some 35), .ex 1 (.t 28), none⟩ ::⟨(some 9), .mv (.t 34), none⟩ ::⟨(some 10), .mv (.t 35), none⟩ :: [])) (.seq (.draw (⟨(some 36), .call (.c (.fn 15 [])) [], none⟩ ::⟨(some 37), .mv (.t 36), none⟩ ::⟨(some 38), .mv (.t 7), some (37, true)⟩ ::⟨(some 39), .mv (.t 9), some (37, true)⟩ ::⟨(some 40), .bin .eql (.t 38) (.t 39), some (37, true)⟩ ::⟨(some 41), .pick (.t 37) (.t 40) (.c (.bool false)), none⟩ ::⟨(some 42), .mv (.t 41), none⟩ ::⟨(some 43), .mv (.t 8), some (42, true)⟩ ::⟨(some 44), .mv (.t 10), some (42, true)⟩ ::⟨(some 45), .beq false (.t 43) (.t 44), some (42, true)⟩ ::⟨(some 46), .pick (.t 42) (.t 45) (.c (.bool false)), none⟩ ::⟨(some 47), .mv (.t 46), none⟩ ::⟨(some 48), .ld 3 true (.t 3), some (47, true)⟩ ::⟨(some 49), .iaA 2 2 (.t 4) (.c (.int .i64 0)), some (47, true)⟩ ::⟨(some 50), .fa 0 (.t 49), some (47, true)⟩ ::⟨(some 51), .ld 1 false (.t 50), some (47, true)⟩ ::⟨(some 52), .iaA 2 2 (.t 4) (.c (.int .i64 0)), some (47, true)⟩ ::⟨(some 53), .fa 1 (.t 52), some (47, true)⟩ ::⟨(some 54), .ld 1 false (.t 53), some (47, true)⟩ ::⟨(some 55), .call (.c (.fn 29 [])) [(.t 48), (.t 51), (.t 54)], some (47, true)⟩ ::⟨(some 56), .ld 3 true (.t 3), some (47, true)⟩ ::⟨(some 57), .iaA 2 2 (.t 4) (.c (.int .i64 0)), some (47, true)⟩ ::⟨(some 58), .fa 0 (.t 57), some (47, true)⟩ ::⟨(some 59), .ld 1 false (.t 58), some (47, true)⟩ ::⟨(some 60), .iaA 2 2 (.t 4) (.c (.int .i64 0)), some (47, true)⟩ ::⟨(some 61), .fa 1 (.t 60), some (47, true)⟩ ::⟨(some 62), .ld 1 false (.t 61), some (47, true)⟩ ::⟨(some 63), .call (.c (.fn 30 [])) [(.t 56), (.t 59), (.t 62)], some (47, true)⟩ ::⟨(some 64), .call (.c (.fn 22 [])) [(.t 55), (.t 63)], some (47, true)⟩ ::⟨(some 65), .pick (.t 47) (.t 64) (.c (.bool false)), none⟩ ::⟨(some 66), .mv (.t 65), none⟩ ::⟨(some 67), .ld 3 true (.t 3), some (66, true)⟩ ::⟨(some 68), .iaA 2 2 (.t 4) (.c (.int .i64 0)), some (66, true)⟩ ::⟨(some 69), .fa 0 (.t 68), some (66, true)⟩ ::⟨(some 70), .ld 1 false (.t 69), some (66, true)⟩ ::⟨(some 71), .call (.c (.fn 31 [])) [(.t 67), (.t 70)], some (66, true)⟩ ::⟨(some 72), .ld 3 true (.t 3), some (66, true)⟩ ::⟨(some 73), .iaA 2 2 (.t 4) (.c (.int .i64 0)), some (66, true)⟩ ::⟨(some 74), .fa 0 (.t 73), some (66, true)⟩ ::⟨(some 75), .ld 1 false (.t 74), some (66, true)⟩ ::⟨(some 76), .call (.c (.fn 32 [])) [(.t 72), (.t 75)], some (66, true)⟩ ::⟨(some 77), .call (.c (.fn 22 [])) [(.t 71), (.t 76)], some (66, true)⟩ ::⟨(some 78), .pick (.t 66) (.t 77) (.c (.bool false)), none⟩ ::⟨(some 79), .mv (.t 78), none⟩ ::⟨(some 80), .ld 3 true (.t 3), some (79, true)⟩ ::⟨(some 81), .call (.c (.fn 33 [])) [(.t 80)], some (79, true)⟩ ::⟨(some 82), .ld 3 true (.t 3), some (79, true)⟩ ::⟨(some 83), .call (.c (.fn 34 [])) [(.t 82)], some (79, true)⟩ ::⟨(some 84), .bin .eql (.t 81) (.t 83), some (79, true)⟩ ::⟨(some 85), .pick (.t 79) (.t 84) (.c (.bool false)), none⟩ ::⟨(some 86), .mv (.t 85), none⟩ ::⟨(some 87), .ld 3 true (.t 3), some (86, true)⟩ ::⟨(some 88), .mv (.t 2), some (86, true)⟩ ::⟨(some 89), .call (.c (.fn 35 [])) [(.t 87), (.t 88)], some (86, true)⟩ ::⟨(some 90), .ld 3 true (.t 3), some (86, true)⟩ ::⟨(some 91), .mv (.t 2), some (86, true)⟩ ::⟨(some 92), .call (.c (.fn 36 [])) [(.t 90), (.t 91)], some (86, true)⟩ ::⟨(some 93), .call (.c (.fn 22 [])) [(.t 89), (.t 92)], some (86, true)⟩ ::⟨(some 94), .pick (.t 86) (.t 93) (.c (.bool false)), none⟩ ::⟨(some 95), .mv (.t 94), none⟩ ::⟨(some 96), .ld 3 true (.t 3), some (95, true)⟩ ::⟨(some 97), .iaA 2 2 (.t 4) (.c (.int .i64 0)), some (95, true)⟩ ::⟨(some 98), .fa 0 (.t 97), some (95, true)⟩ ::⟨(some 99), .ld 1 false (.t 98), some (95, true)⟩ ::⟨(some 100), .iaA 2 2 (.t 4) (.c (.int .i64 1)), some (95, true)⟩ ::⟨(some 101), .fa 0 (.t 100), some (95, true)⟩ ::⟨(some 102), .ld 1 false (.t 101), some (95, true)⟩ ::⟨(some 103), .call (.c (.fn 37 [])) [(.t 96), (.t 99), (.t 102)], some (95, true)⟩ ::⟨(some 104), .ld 3 true (.t 3), some (95, true)⟩ ::⟨(some 105), .iaA 2 2 (.t 4) (.c (.int .i64 0)), some (95, true)⟩ ::⟨(some 106), .fa 0 (.t 105), some (95, true)⟩ ::⟨(some 107), .ld 1 false (.t 106), some (95, true)⟩ ::⟨(some 108), .iaA 2 2 (.t 4) (.c (.int .i64 1)), some (95, true)⟩ ::⟨(some 109), .fa 0 (.t 108), some (95, true)⟩ ::⟨(some 110), .ld 1 false (.t 109), some (95, true)⟩ :: []) (⟨(some 111), .call (.c (.fn 38 [])) [(.t 104), (.t 107), (.t 110)], some (95, true)⟩ ::⟨(some 112), .call (.c (.fn 22 [])) [(.t 103), (.t 111)], some (95, true)⟩ ::⟨(some 113), .pick (.t 95) (.t 112) (.c (.bool false)), none⟩ ::⟨(some 6), .mv (.t 113), none⟩ :: [])) .ret)))))
theorem cd_fretworklaw10_DevecDoes : Code1 Try.prog 4 114 ir_fretworklaw10_DevecDoes [.t 6] := ⟨Try.call4, _, _, Try.func4, rfl, by kernel_rfl, by kernel_rfl, by kernel_rfl, by kernel_rfl⟩

set_option maxHeartbeats 8000000 in
theorem fs_DevecDoes (n : Int) (f : List Nat) (v : List Int) (p x q y : Int) (g : List Nat) (hn : I64 n) (hw : Wd f) (hp : I64 p) (hq : I64 q) (hg : Wd g) : FS Try.prog 4 [DV n f v, .agg [.int .i64 p, .int .i64 x, .int .i64 q, .int .i64 y], U g] (.bool true) := by
  refine fs_of_cvc mixed cd_fretworklaw10_DevecDoes (by simp) ?_
  have c1 := fs_small n f v
  have hgl := U_len g
  by_cases hs : (v.length ≤ 150 ∧ f.length ≤ 5) ∧ g.length ≤ 5
  · obtain ⟨⟨s1, s2⟩, s3⟩ := hs
    rw [decide_eq_true s1, decide_eq_true s2] at c1
    have hf : f.length ≤ 1000000 := by omega
    have hv : v.length ≤ 1000000 := by omega
    have hok := okV_bkL (okD_dS n v hw)
    have d1 := fs_dGet n f v p hn hp hw hf hv
    have d2 := fs_r10Get n f v p hn hw hf hv
    have d3 := fs_dSet n f v p x hn hp hw hf hv
    have d4 := fs_r10Set n f v p x hn hw hf hv
    have d5 := fs_dDrop n f v p hn hp hw hf hv
    have d6 := fs_r10Drop n f v p hn hw hf hv
    have d7 := fs_dCount n f v hn hw hf hv
    have d8 := fs_r10Count n f v hn hw hf hv
    have d9 := fs_dOnly n f v g hn hw hg hf hv (by omega)
    have da := fs_r10Only n f v g hn hw hg hf hv (by omega)
    have db := fs_dPart n f v p q hn hp hq hw hf hv
    have dc := fs_r10Part n f v p q hn hp hq hw hf hv
    generalize bkL (dS n f v).2.1 (dS n f v).2.2 = B at *
    generalize dG (dS n f v).2.1 (dS n f v).2.2 p = G at *
    generalize (dS n f v).1 = N at *
    generalize (bits (dS n f v).2.1).length = K at *
    have e1 := fs_sameV (hok.put (p := p) (v := x))
    have e2 := fs_sameV (show OkV N (rest (fun y => decide (y.1 = p)) B) from hok.filt _)
    have e3 := fs_sameV (show OkV N (B.filter fun x => hasI g x.1) from ⟨hok.n0, hok.n1, hok.up.filter _, fun x hx => hok.lo x (List.mem_filter.1 hx).1⟩)
    have e4 := fs_sameV (okV_ptR hok p q)
    unfold dV at *
    generalize G.getD 0 = g1 at *
    generalize G.isSome = g2 at *
    repeat' (conv => whnf); first
      | ((refine Or.inl ⟨by rfl, _, c1, ?_⟩))
      | ((refine Or.inl ⟨by rfl, _, d1, ?_⟩))
      | ((refine Or.inl ⟨by rfl, _, d2, ?_⟩))
      | ((refine Or.inl ⟨by rfl, _, d3, ?_⟩))
      | ((refine Or.inl ⟨by rfl, _, d4, ?_⟩))
      | ((refine Or.inl ⟨by rfl, _, d5, ?_⟩))
      | ((refine Or.inl ⟨by rfl, _, d6, ?_⟩))
      | ((refine Or.inl ⟨by rfl, _, d7, ?_⟩))
      | ((refine Or.inl ⟨by rfl, _, d8, ?_⟩))
      | ((refine Or.inl ⟨by rfl, _, d9, ?_⟩))
      | ((refine Or.inl ⟨by rfl, _, da, ?_⟩))
      | ((refine Or.inl ⟨by rfl, _, db, ?_⟩))
      | ((refine Or.inl ⟨by rfl, _, dc, ?_⟩))
      | ((refine Or.inl ⟨by rfl, _, e1, ?_⟩))
      | ((refine Or.inl ⟨by rfl, _, e2, ?_⟩))
      | ((refine Or.inl ⟨by rfl, _, e3, ?_⟩))
      | ((refine Or.inl ⟨by rfl, _, e4, ?_⟩))
      | ((refine Or.inl ⟨by rfl, _, fs_live10, ?_⟩))
      | ((refine Br.beq (by rfl) ?_))
      | ((refine Br.bne (by rfl) ?_))
      | ((refine And.intro (Or.inl (Nat.zero_le _)) ?_))
      | ((refine And.intro (show _ ≤ _ from Nat.le_of_ble_eq_true rfl) ?_))
      | (refine Br.tt ?_)
      | (refine Br.ff ?_)
      | (refine Br.dec (fun h => ?_) (fun h => ?_)) <;> try (exfalso; omega)
      | (refine Br.neg ?_)
      | (refine Br.mk (fun h => ?_) (fun h => ?_))
      | (refine And.intro rfl ?_)
      | (refine And.intro (by omega) ?_)
      | (refine ⟨_, Or.inl ⟨⟨by omega, by omega⟩, rfl⟩, ?_⟩)
      | (refine And.intro (by simp only [lens_all, U_len, zs_len, its_len, ints_len]; first | done | omega) ?_)
      | (refine And.intro (Nat.le_refl _) ?_)
      | fail
    all_goals first
      | exact rfl
      | (show SV.bool (decide _) = SV.bool true; simp; done)
  · have c1' : v.length ≤ 150 ∧ f.length ≤ 5 → ¬ g.length ≤ 5 := fun h k => hs ⟨h, k⟩
    cases hb : decide (v.length ≤ 150) && decide (f.length ≤ 5) with
    | true =>
      rw [hb] at c1
      rw [Bool.and_eq_true, decide_eq_true_eq, decide_eq_true_eq] at hb
      have := c1' hb
      repeat' (conv => whnf); first
        | ((refine Or.inl ⟨by rfl, _, c1, ?_⟩))
        | ((refine Or.inl ⟨by rfl, _, fs_live10, ?_⟩))
        | ((refine Br.beq (by rfl) ?_))
        | ((refine Br.bne (by rfl) ?_))
        | ((refine And.intro (Or.inl (Nat.zero_le _)) ?_))
        | ((refine And.intro (show _ ≤ _ from Nat.le_of_ble_eq_true rfl) ?_))
        | (refine Br.tt ?_)
        | (refine Br.ff ?_)
        | (refine Br.dec (fun h => ?_) (fun h => ?_)) <;> try (exfalso; omega)
        | (refine Br.neg ?_)
        | (refine Br.mk (fun h => ?_) (fun h => ?_))
        | (refine And.intro rfl ?_)
        | (refine And.intro (by omega) ?_)
        | (refine ⟨_, Or.inl ⟨⟨by omega, by omega⟩, rfl⟩, ?_⟩)
        | (refine And.intro (by simp only [lens_all, U_len, zs_len, its_len, ints_len]; first | done | omega) ?_)
        | (refine And.intro (Nat.le_refl _) ?_)
        | fail
      all_goals exact rfl
    | false =>
      rw [hb] at c1
      repeat' (conv => whnf); first
        | ((refine Or.inl ⟨by rfl, _, c1, ?_⟩))
        | ((refine Or.inl ⟨by rfl, _, fs_live10, ?_⟩))
        | ((refine Br.beq (by rfl) ?_))
        | ((refine Br.bne (by rfl) ?_))
        | ((refine And.intro (Or.inl (Nat.zero_le _)) ?_))
        | ((refine And.intro (show _ ≤ _ from Nat.le_of_ble_eq_true rfl) ?_))
        | (refine Br.tt ?_)
        | (refine Br.ff ?_)
        | (refine Br.dec (fun h => ?_) (fun h => ?_)) <;> try (exfalso; omega)
        | (refine Br.neg ?_)
        | (refine Br.mk (fun h => ?_) (fun h => ?_))
        | (refine And.intro rfl ?_)
        | (refine And.intro (by omega) ?_)
        | (refine ⟨_, Or.inl ⟨⟨by omega, by omega⟩, rfl⟩, ?_⟩)
        | (refine And.intro (by simp only [lens_all, U_len, zs_len, its_len, ints_len]; first | done | omega) ?_)
        | (refine And.intro (Nat.le_refl _) ?_)
        | fail
      all_goals exact rfl
end
end Go.Proofs.Ytahpfomabgfmkaa
