/- Numbers cut in two ways at once: the program's function is the document's. The laws on parts: where they begin; segments. The laws on parts: places. The laws on parts: each number is in one. -/
import Derived.Test.YtjaakpigkoakkaaG3
namespace Go.Proofs.Ytjaakpigkoakkaa
section
open Go.RowKit
attribute [local irreducible] FS FO IT HS

theorem mem_all (n r c x : Int) : x ∈ allL n r c ↔ isCut n r c x := by
  have h : ∀ k : Int, x ∈ lwL n k k.toNat ↔ ∃ i, 0 ≤ i ∧ i < k ∧ lowI n k (i + 1) = x := fun k => by
    unfold lwL
    rw [List.mem_map]
    constructor
    · rintro ⟨i, hi, rfl⟩
      rw [List.mem_range] at hi
      exact ⟨i, by omega, by omega, rfl⟩
    · rintro ⟨i, h0, h1, rfl⟩
      exact ⟨i.toNat, List.mem_range.2 (by omega), by rw [show ((i.toNat : Nat) : Int) = i by omega]⟩
  unfold allL isCut
  rw [List.mem_append, h, h]
theorem cutL_spec (n r c : Int) : (cutL n r c).Pairwise (fun x y => x < y) ∧ ∀ x, x ∈ cutL n r c ↔ isCut n r c x ∧ ((0 : Nat) : Int) < x := by
  obtain ⟨h1, h2⟩ := ysL_spec (srt (allL n r c)) 0 (srt_up _) fun x hx => by
    rw [srt_mem, mem_all] at hx
    rcases hx with ⟨i, _, _, rfl⟩ | ⟨i, _, _, rfl⟩
    · exact (low_bd _ _ _).1
    · exact (low_bd _ _ _).1
  exact ⟨h1, fun x => by rw [cutL, h2, srt_mem, mem_all]; rfl⟩
theorem ysL_len : ∀ (l : List Int) (z : Int), (ysL z l).length ≤ l.length
  | [], _ => Nat.le_refl _
  | a :: l, z => by
    have := ysL_len l a
    unfold ysL
    split <;> simp <;> omega
theorem cutL_len {n r c : Int} (hr : mayB n r = true) (hc : mayB n c = true) : (cutL n r c).length ≤ 16 := by
  have h := ysL_len (srt (allL n r c)) 0
  have e : (allL n r c).length = r.toNat + c.toNat := by unfold allL; rw [List.length_append, lwL_len, lwL_len]
  have := mayB_iff.1 hr
  have := mayB_iff.1 hc
  rw [srt_len, e] at h
  unfold cutL
  omega
theorem segS_len (n r c : Int) : ∀ (l : List Int) (z : Int), (segS n r c z l).length = l.length
  | [], _ => rfl
  | a :: l, z => by rw [segS, List.length_cons, List.length_cons, segS_len n r c l a]
theorem segS_snoc (n r c a : Int) : ∀ (l : List Int) (z : Int), segS n r c z (l ++ [a]) = segS n r c z l ++ [(l.getLastD z, a, ofI n r (l.getLastD z), ofI n c (l.getLastD z))]
  | [], _ => rfl
  | b :: l, z => by
    rw [List.cons_append, segS, segS, segS_snoc n r c a l b, List.getLastD_cons]
    rfl
theorem seg_eq {n r c : Int} (hr : mayB n r = true) (hc : mayB n c = true) : segS n r c 0 (cutL n r c) = refS n r c n.toNat := by
  have := seg_ref hr hc (cutL n r c) 0 [] (by have := mayB_iff.1 hr; omega) rfl (fun s hs => by simp at hs) (cutL_spec n r c).1 (cutL_spec n r c).2
  rw [this]
  rfl

def ir_part_cuts : IR :=
(.seq (.reg (⟨(some 3), .bx (.t 0), none⟩ ::⟨(some 4), .bx (.t 1), none⟩ ::⟨(some 5), .bx (.t 2), none⟩ ::⟨(some 6), .mv (.c (.raw .nilFunc)), none⟩ :: [])) (.seq (.reg (⟨(some 7), .fn 30 [(.t 4), (.t 3), (.t 5)], none⟩ ::⟨(some 6), .mv (.t 7), none⟩ :: [])) .ret))
theorem cd_part_cuts : Code1 Try.prog 29 8 ir_part_cuts [.t 6] := ⟨Try.call29, _, _, Try.func29, rfl, by kernel_rfl, by kernel_rfl, by kernel_rfl, by kernel_rfl⟩

theorem fs_cuts (n r c : Int) : FS Try.prog 29 [.int .i64 n, .int .i64 r, .int .i64 c] (.fn 30 [.box [.int .i64 r] 0, .box [.int .i64 n] 0, .box [.int .i64 c] 0]) := by
  refine fs_of_cvc mixed cd_part_cuts (by simp) ?_
  repeat' (conv => whnf); first
    | ((refine Br.beq (by rfl) ?_))
    | ((refine Br.bne (by rfl) ?_))
    | ((refine And.intro (Or.inl (Nat.zero_le _)) ?_))
    | ((refine And.intro (show _ ≤ _ from Nat.le_of_ble_eq_true rfl) ?_))
    | ((refine And.intro (by intro y hy; simp at hy; subst hy; rfl) ?_))
    | (refine Br.tt ?_)
    | (refine Br.ff ?_)
    | (refine Br.dec (fun h => ?_) (fun h => ?_)) <;> try (exfalso; omega)
    | (refine Br.neg ?_)
    | (refine Br.mk (fun h => ?_) (fun h => ?_))
    | (refine And.intro rfl ?_)
    | (refine And.intro (by omega) ?_)
    | (refine ⟨_, Or.inl ⟨⟨by omega, by omega⟩, rfl⟩, ?_⟩)
    | (refine And.intro (by simp only [lens_all, zl_len, sgs_len, segS_len]; first | done | omega) ?_)
    | (refine And.intro (Nat.le_refl _) ?_)
    | fail
  exact rfl

def ir_part_Segments : IR :=
(.seq (.reg (⟨(some 3), .bx (.t 0), none⟩ ::⟨(some 4), .bx (.t 1), none⟩ ::⟨(some 5), .bx (.t 2), none⟩ ::⟨(some 6), .mv (.c (.nils)), none⟩ :: [])) (.seq (.seq (.reg (⟨(some 10), .ld 1 false (.t 3), none⟩ ::⟨(some 11), .ld 1 false (.t 4), none⟩ ::⟨(some 12), .call (.c (.fn 26 [])) [(.t 10), (.t 11)], none⟩ ::⟨(some 13), .un .not (.t 12), none⟩ ::⟨(some 14), .mv (.t 13), none⟩ ::⟨(some 15), .ld 1 false (.t 3), some (14, false)⟩ ::⟨(some 16), .ld 1 false (.t 5), some (14, false)⟩ ::⟨(some 17), .call (.c (.fn 26 [])) [(.t 15), (.t 16)], some (14, false)⟩ ::⟨(some 18), .un .not (.t 17), some (14, false)⟩ ::⟨(some 19), .pick (.t 14) (.c (.bool true)) (.t 18), none⟩ :: [])) (.cond (.t 19) (.seq (.reg (⟨(some 6), .mv (.c (.nils)), none⟩ :: [])) .ret) .skip)) (.seq (.reg (⟨(some 7), .al [.nils], none⟩ :: [])) (.seq (.reg (⟨(some 8), .al [.int .i64 0], none⟩ ::⟨none, .st 1 (.t 8) (.c (.int .i64 0)), none⟩ :: [])) (.seq (.seq (.reg (⟨(some 20), .ld 1 false (.t 3), none⟩ ::⟨(some 21), .ld 1 false (.t 4), none⟩ ::⟨(some 22), .ld 1 false (.t 5), none⟩ ::⟨(some 23), .call (.c (.fn 29 [])) [(.t 20), (.t 21), (.t 22)], none⟩ :: [])) (.block 0 (.rng (.t 23) [24] (.reg (⟨(some 9), .mv (.t 24), none⟩ :: [])) (.block 1 (.seq (.draw (⟨(some 25), .ld 1 false (.t 7), none⟩ ::⟨(some 26), .ld 1 false (.t 8), none⟩ ::⟨(some 27), .mv (.t 9), none⟩ ::⟨(some 28), .ld 1 false (.t 3), none⟩ ::⟨(some 29), .ld 1 false (.t 4), none⟩ ::⟨(some 30), .ld 1 false (.t 8), none⟩ ::⟨(some 31), .call (.c (.fn 15 [])) [(.t 28), (.t 29), (.t 30)], none⟩ ::⟨(some 32), .ld 1 false (.t 3), none⟩ ::⟨(some 33), .ld 1 false (.t 5), none⟩ ::⟨(some 34), .ld 1 false (.t 8), none⟩ ::⟨(some 35), .call (.c (.fn 15 [])) [(.t 32), (.t 33), (.t 34)], none⟩ ::⟨(some 36), .bld [.int .i64 0, .int .i64 0, .int .i64 0, .int .i64 0] [(0, 1, (.t 26)), (1, 1, (.t 27)), (2, 1, (.t 31)), (3, 1, (.t 35))], none⟩ ::⟨(some 37), .bsl 1 4 [.int .i64 0, .int .i64 0, .int .i64 0, .int .i64 0] [(0, (.t 36))], none⟩ :: []) (⟨(some 38), .ap 4 32 (.t 25) (.t 37), none⟩ ::⟨none, .st 1 (.t 7) (.t 38), none⟩ :: [])) (.reg (⟨(some 39), .mv (.t 9), none⟩ ::⟨none, .st 1 (.t 8) (.t 39), none⟩ :: []))))))) (.seq (.reg (⟨(some 40), .ld 1 false (.t 7), none⟩ ::⟨(some 6), .mv (.t 40), none⟩ :: [])) .ret))))))
theorem cd_part_Segments : Code1 Try.prog 24 41 ir_part_Segments [.t 6] := ⟨Try.call24, _, _, Try.func24, rfl, by kernel_rfl, by kernel_rfl, by kernel_rfl, by kernel_rfl⟩

set_option maxHeartbeats 4000000 in
theorem fs_Segments (n r c : Int) : FS Try.prog 24 [.int .i64 n, .int .i64 r, .int .i64 c] (SG (segR n r c)) := by
  refine fs_of_cvc mixed cd_part_Segments (by simp) ?_
  have c1 := fs_may n r
  have c2 := fs_may n c
  unfold segR
  cases hr : mayB n r with
  | false =>
    rw [hr] at c1
    rw [if_neg fun h => by cases h.1]
    repeat' (conv => whnf); first
      | ((refine Or.inl ⟨by rfl, _, c1, ?_⟩))
      | ((refine Or.inl ⟨by rfl, _, c2, ?_⟩))
      | ((refine Br.beq (by rfl) ?_))
      | ((refine Br.bne (by rfl) ?_))
      | ((refine And.intro (Or.inl (Nat.zero_le _)) ?_))
      | ((refine And.intro (show _ ≤ _ from Nat.le_of_ble_eq_true rfl) ?_))
      | ((refine And.intro (by intro y hy; simp at hy; subst hy; rfl) ?_))
      | (refine Br.tt ?_)
      | (refine Br.ff ?_)
      | (refine Br.dec (fun h => ?_) (fun h => ?_)) <;> try (exfalso; omega)
      | (refine Br.neg ?_)
      | (refine Br.mk (fun h => ?_) (fun h => ?_))
      | (refine And.intro rfl ?_)
      | (refine And.intro (by omega) ?_)
      | (refine ⟨_, Or.inl ⟨⟨by omega, by omega⟩, rfl⟩, ?_⟩)
      | (refine And.intro (by simp only [lens_all, zl_len, sgs_len, segS_len]; first | done | omega) ?_)
      | (refine And.intro (Nat.le_refl _) ?_)
      | fail
    all_goals first | exact rfl | exact trivial | exact ⟨rfl, trivial⟩
  | true =>
    rw [hr] at c1
    cases hc : mayB n c with
    | false =>
      rw [hc] at c2
      rw [if_neg fun h => by cases h.2]
      repeat' (conv => whnf); first
        | ((refine Or.inl ⟨by rfl, _, c1, ?_⟩))
        | ((refine Or.inl ⟨by rfl, _, c2, ?_⟩))
        | ((refine Br.beq (by rfl) ?_))
        | ((refine Br.bne (by rfl) ?_))
        | ((refine And.intro (Or.inl (Nat.zero_le _)) ?_))
        | ((refine And.intro (show _ ≤ _ from Nat.le_of_ble_eq_true rfl) ?_))
        | ((refine And.intro (by intro y hy; simp at hy; subst hy; rfl) ?_))
        | (refine Br.tt ?_)
        | (refine Br.ff ?_)
        | (refine Br.dec (fun h => ?_) (fun h => ?_)) <;> try (exfalso; omega)
        | (refine Br.neg ?_)
        | (refine Br.mk (fun h => ?_) (fun h => ?_))
        | (refine And.intro rfl ?_)
        | (refine And.intro (by omega) ?_)
        | (refine ⟨_, Or.inl ⟨⟨by omega, by omega⟩, rfl⟩, ?_⟩)
        | (refine And.intro (by simp only [lens_all, zl_len, sgs_len, segS_len]; first | done | omega) ?_)
        | (refine And.intro (Nat.le_refl _) ?_)
        | fail
      all_goals first | exact rfl | exact trivial | exact ⟨rfl, trivial⟩
    | true =>
      rw [hc] at c2
      rw [if_pos ⟨rfl, rfl⟩, ← seg_eq hr hc]
      have c3 := fs_cuts n r c
      have c4 := it_cuts n r c hr hc
      have hcl := cutL_len hr hc
      generalize cutL n r c = L at *
      have hil := zl_len L
      repeat' (conv => whnf); first
        | ((refine Or.inl ⟨by rfl, _, c1, ?_⟩))
        | ((refine Or.inl ⟨by rfl, _, c2, ?_⟩))
        | ((refine Or.inl ⟨by rfl, _, c3, ?_⟩))
        | ((refine Br.beq (by rfl) ?_))
        | ((refine Br.bne (by rfl) ?_))
        | ((refine And.intro (Or.inl (Nat.zero_le _)) ?_))
        | ((refine And.intro (show _ ≤ _ from Nat.le_of_ble_eq_true rfl) ?_))
        | ((refine And.intro (by intro y hy; simp at hy; subst hy; rfl) ?_))
        | (refine Br.tt ?_)
        | (refine Br.ff ?_)
        | (refine Br.dec (fun h => ?_) (fun h => ?_)) <;> try (exfalso; omega)
        | (refine Br.neg ?_)
        | (refine Br.mk (fun h => ?_) (fun h => ?_))
        | (refine And.intro rfl ?_)
        | (refine And.intro (by omega) ?_)
        | (refine ⟨_, Or.inl ⟨⟨by omega, by omega⟩, rfl⟩, ?_⟩)
        | (refine And.intro (by simp only [lens_all, zl_len, sgs_len, segS_len]; first | done | omega) ?_)
        | (refine And.intro (Nat.le_refl _) ?_)
        | fail
      refine ⟨[], [], [.box [.int .i64 r] 0, .box [.int .i64 n] 0, .box [.int .i64 c] 0], [], zl L, fun i => [.vars [.int .i64 n], .vars [.int .i64 r], .vars [.int .i64 c], .vars [.osl 5 4 0 i], .vars [.int .i64 ((L.take i).getLastD 0)], .arr 4 (sgs (segS n r c 0 (L.take i)))], fun i => i ≤ L.length, c4, rfl, rfl, rfl, rfl, List.nodup_nil, by simp, ⟨⟨rfl, trivial⟩, ⟨rfl, trivial⟩, ⟨rfl, trivial⟩, ⟨⟨Nat.le_refl _, rfl, rfl⟩, trivial⟩, ⟨rfl, trivial⟩, rfl, trivial⟩, Nat.zero_le _, fun i x hx hi => ?_, fun hi => ?_⟩
      · obtain ⟨y, hy, rfl⟩ := zl_get hx
        have hil2 := (List.getElem?_eq_some_iff.1 hy).1
        have htk : L.take (i + 1) = L.take i ++ [y] := by rw [List.take_add_one, hy]; rfl
        have hsn := segS_snoc n r c y (L.take i) 0
        have hsl : (sgs (segS n r c 0 (L.take i))).length = i := by rw [sgs_len, segS_len, List.length_take]; omega
        have hgl : (L.take (i + 1)).getLastD 0 = y := by rw [htk]; simp
        rw [← htk] at hsn
        have c5 := fs_Of n r ((L.take i).getLastD 0)
        have c6 := fs_Of n c ((L.take i).getLastD 0)
        refine ⟨rfl, ?_⟩
        repeat' (conv => whnf); first
          | ((refine Or.inl ⟨by rfl, _, c5, ?_⟩))
          | ((refine Or.inl ⟨by rfl, _, c6, ?_⟩))
          | ((refine Br.beq (by rfl) ?_))
          | ((refine Br.bne (by rfl) ?_))
          | ((refine And.intro (Or.inl (Nat.zero_le _)) ?_))
          | ((refine And.intro (show _ ≤ _ from Nat.le_of_ble_eq_true rfl) ?_))
          | ((refine And.intro (by intro y hy; simp at hy; subst hy; rfl) ?_))
          | (refine Br.tt ?_)
          | (refine Br.ff ?_)
          | (refine Br.dec (fun h => ?_) (fun h => ?_)) <;> try (exfalso; omega)
          | (refine Br.neg ?_)
          | (refine Br.mk (fun h => ?_) (fun h => ?_))
          | (refine And.intro rfl ?_)
          | (refine And.intro (by omega) ?_)
          | (refine ⟨_, Or.inl ⟨⟨by omega, by omega⟩, rfl⟩, ?_⟩)
          | (refine And.intro (by simp only [lens_all]; first | done | omega) ?_)
          | (refine And.intro (Nat.le_refl _) ?_)
          | fail
        refine ⟨⟨rfl, trivial⟩, ⟨rfl, trivial⟩, ⟨rfl, trivial⟩, ⟨rfl, trivial⟩, ⟨?_, trivial⟩, ?_, trivial⟩
        · rw [hgl]; exact rfl
        · rw [hsn]
          exact congrArg (Blk.arr 4) (sgs_append _ [((L.take i).getLastD 0, y, ofI n r ((L.take i).getLastD 0), ofI n c ((L.take i).getLastD 0))]).symm
      · have e2 : L.take (zl L).length = L := by rw [hil, List.take_length]
        repeat' (conv => whnf); first
          | ((refine Br.beq (by rfl) ?_))
          | ((refine Br.bne (by rfl) ?_))
          | ((refine And.intro (Or.inl (Nat.zero_le _)) ?_))
          | ((refine And.intro (show _ ≤ _ from Nat.le_of_ble_eq_true rfl) ?_))
          | ((refine And.intro (by intro y hy; simp at hy; subst hy; rfl) ?_))
          | (refine Br.tt ?_)
          | (refine Br.ff ?_)
          | (refine Br.dec (fun h => ?_) (fun h => ?_)) <;> try (exfalso; omega)
          | (refine Br.neg ?_)
          | (refine Br.mk (fun h => ?_) (fun h => ?_))
          | (refine And.intro rfl ?_)
          | (refine And.intro (by omega) ?_)
          | (refine ⟨_, Or.inl ⟨⟨by omega, by omega⟩, rfl⟩, ?_⟩)
          | (refine And.intro (by simp only [lens_all, zl_len, sgs_len, segS_len]; first | done | omega) ?_)
          | (refine And.intro (Nat.le_refl _) ?_)
          | fail
        conv => whnf
        rw [e2, frz_sgs (by rw [segS_len, hil])]
end
section
open Go.RowKit
attribute [local irreducible] FS FO IT HS

theorem eqs0 (a b c d : Int) : EqOk Try.prog false 32 [.int .i64 a, .int .i64 b, .int .i64 c, .int .i64 d] [.int .i64 a, .int .i64 b, .int .i64 c, .int .i64 d] true := by
  have h := eqok_flat (P := Try.prog) false Try.underlying32 (by kernel_rfl) (by kernel_rfl) (ks := [.i64, .i64, .i64, .i64]) ⟨by decide, rfl, by kernel_rfl, by kernel_rfl, by kernel_rfl, by decide, rfl, by kernel_rfl, by kernel_rfl, by kernel_rfl, by decide, rfl, by kernel_rfl, by kernel_rfl, by kernel_rfl, by decide, rfl, by kernel_rfl, by kernel_rfl, by kernel_rfl, trivial⟩ (la := [a, b, c, d]) (lb := [a, b, c, d]) rfl rfl
  simp only at h
  exact h
theorem segR_len (n r c : Int) : (segR n r c).length ≤ 1000000000 := by
  unfold segR
  split
  · rename_i h
    have := mayB_iff.1 h.1
    have := refS_len n r c n.toNat
    omega
  · simp

def ir_fretworklaw17_live : IR :=
(.seq (.reg (⟨(some 0), .mv (.c (.bool false)), none⟩ :: [])) (.seq (.reg (⟨(some 2), .call (.c (.fn 24 [])) [(.c (.int .i64 5)), (.c (.int .i64 2)), (.c (.int .i64 3))], none⟩ ::⟨(some 1), .mv (.t 2), none⟩ :: [])) (.seq (.reg (⟨(some 3), .call (.c (.fn 9 [])) [(.c (.int .i64 5)), (.c (.int .i64 2)), (.c (.int .i64 1))], none⟩ ::⟨(some 4), .bin .eql (.t 3) (.c (.int .i64 2)), none⟩ ::⟨(some 5), .mv (.t 4), none⟩ ::⟨(some 6), .call (.c (.fn 11 [])) [(.c (.int .i64 5)), (.c (.int .i64 2)), (.c (.int .i64 1))], some (5, true)⟩ ::⟨(some 7), .bin .eql (.t 6) (.c (.int .i64 3)), some (5, true)⟩ ::⟨(some 8), .pick (.t 5) (.t 7) (.c (.bool false)), none⟩ ::⟨(some 9), .mv (.t 8), none⟩ ::⟨(some 10), .call (.c (.fn 13 [])) [(.c (.int .i64 5)), (.c (.int .i64 2))], some (9, true)⟩ ::⟨(some 11), .bin .eql (.t 10) (.c (.int .i64 3)), some (9, true)⟩ ::⟨(some 12), .pick (.t 9) (.t 11) (.c (.bool false)), none⟩ ::⟨(some 13), .mv (.t 12), none⟩ ::⟨(some 14), .call (.c (.fn 15 [])) [(.c (.int .i64 5)), (.c (.int .i64 2)), (.c (.int .i64 4))], some (13, true)⟩ ::⟨(some 15), .bin .eql (.t 14) (.c (.int .i64 1)), some (13, true)⟩ ::⟨(some 16), .pick (.t 13) (.t 15) (.c (.bool false)), none⟩ ::⟨(some 17), .mv (.t 16), none⟩ ::⟨(some 18), .call (.c (.fn 15 [])) [(.c (.int .i64 5)), (.c (.int .i64 2)), (.c (.int .i64 5))], some (17, true)⟩ ::⟨(some 19), .bin .eql (.t 18) (.c (.int .i64 (-1))), some (17, true)⟩ ::⟨(some 20), .pick (.t 17) (.t 19) (.c (.bool false)), none⟩ ::⟨(some 21), .mv (.t 20), none⟩ ::⟨(some 22), .mv (.t 1), some (21, true)⟩ ::⟨(some 23), .ln (.t 22), some (21, true)⟩ ::⟨(some 24), .bin .eql (.t 23) (.c (.int .i64 4)), some (21, true)⟩ ::⟨(some 25), .pick (.t 21) (.t 24) (.c (.bool false)), none⟩ ::⟨(some 26), .mv (.t 25), none⟩ ::⟨(some 27), .mv (.t 1), some (26, true)⟩ ::⟨(some 28), .ia 4 (.t 27) (.c (.int .i64 1)), some (26, true)⟩ ::⟨(some 29), .ld 4 true (.t 28), some (26, true)⟩ ::⟨(some 30), .bld [.int .i64 0, .int .i64 0, .int .i64 0, .int .i64 0] [(0, 1, (.c (.int .i64 1))), (1, 1, (.c (.int .i64 2))), (2, 1, (.c (.int .i64 0))), (3, 1, (.c (.int .i64 1)))], some (26, true)⟩ ::⟨(some 31), .eqv false 32 (.t 29) (.t 30), some (26, true)⟩ ::⟨(some 32), .pick (.t 26) (.t 31) (.c (.bool false)), none⟩ ::⟨(some 33), .mv (.t 32), none⟩ ::⟨(some 34), .call (.c (.fn 17 [])) [(.c (.int .i64 3)), (.c (.int .i64 2)), (.c (.int .i64 1))], some (33, true)⟩ ::⟨(some 35), .bin .eql (.t 34) (.c (.int .i64 7)), some (33, true)⟩ ::⟨(some 36), .pick (.t 33) (.t 35) (.c (.bool false)), none⟩ ::⟨(some 37), .mv (.t 36), none⟩ ::⟨(some 38), .call (.c (.fn 19 [])) [(.c (.int .i64 3)), (.c (.int .i64 7))], some (37, true)⟩ ::⟨(some 39), .bin .eql (.t 38) (.c (.int .i64 2)), some (37, true)⟩ ::⟨(some 40), .pick (.t 37) (.t 39) (.c (.bool false)), none⟩ ::⟨(some 41), .mv (.t 40), none⟩ ::⟨(some 42), .call (.c (.fn 21 [])) [(.c (.int .i64 3)), (.c (.int .i64 7))], some (41, true)⟩ ::⟨(some 43), .bin .eql (.t 42) (.c (.int .i64 1)), some (41, true)⟩ ::⟨(some 44), .pick (.t 41) (.t 43) (.c (.bool false)), none⟩ ::⟨(some 45), .mv (.t 44), none⟩ ::⟨(some 46), .call (.c (.fn 17 [])) [(.c (.int .i64 3)), (.c (.int .i64 0)), (.c (.int .i64 3))], some (45, true)⟩ ::⟨(some 47), .bin .eql (.t 46) (.c (.int .i64 (-1))), some (45, true)⟩ ::⟨(some 48), .pick (.t 45) (.t 47) (.c (.bool false)), none⟩ ::⟨(some 0), .mv (.t 48), none⟩ :: [])) .ret)))
theorem cd_fretworklaw17_live : Code1 Try.prog 8 49 ir_fretworklaw17_live [.t 0] := ⟨Try.call8, _, _, Try.func8, rfl, by kernel_rfl, by kernel_rfl, by kernel_rfl, by kernel_rfl⟩

set_option maxHeartbeats 4000000 in
theorem fs_live17 : FS Try.prog 8 [] (.bool true) := by
  refine fs_of_cvc mixed cd_fretworklaw17_live (by simp) ?_
  have c0 : FS Try.prog 24 [.int .i64 5, .int .i64 2, .int .i64 3] (SG [(0, 1, 0, 0), (1, 2, 0, 1), (2, 3, 1, 1), (3, 5, 1, 2)]) := by
    have := fs_Segments 5 2 3
    rwa [show segR 5 2 3 = [(0, 1, 0, 0), (1, 2, 0, 1), (2, 3, 1, 1), (3, 5, 1, 2)] by decide +kernel] at this
  have c1 : FS Try.prog 9 [.int .i64 5, .int .i64 2, .int .i64 1] (.int .i64 2) := by
    have := fs_Low 5 2 1
    rwa [show lowI 5 2 1 = 2 by decide +kernel] at this
  have c2 : FS Try.prog 11 [.int .i64 5, .int .i64 2, .int .i64 1] (.int .i64 3) := by
    have := fs_Size 5 2 1 ⟨by omega, by omega⟩
    rwa [show sizeI 5 2 1 = 3 by decide +kernel] at this
  have c3 : FS Try.prog 13 [.int .i64 5, .int .i64 2] (.int .i64 3) := by
    have := fs_Most 5 2
    rwa [show mostI 5 2 = 3 by decide +kernel] at this
  have c4 : FS Try.prog 15 [.int .i64 5, .int .i64 2, .int .i64 4] (.int .i64 1) := by
    have := fs_Of 5 2 4
    rwa [show ofI 5 2 4 = 1 by decide +kernel] at this
  have c5 : FS Try.prog 15 [.int .i64 5, .int .i64 2, .int .i64 5] (.int .i64 (-1)) := by
    have := fs_Of 5 2 5
    rwa [show ofI 5 2 5 = -1 by decide +kernel] at this
  have c6 : FS Try.prog 17 [.int .i64 3, .int .i64 2, .int .i64 1] (.int .i64 7) := by
    have := fs_Place 3 2 1
    rwa [show plI 3 2 1 = 7 by decide +kernel] at this
  have c7 : FS Try.prog 19 [.int .i64 3, .int .i64 7] (.int .i64 2) := by
    have := fs_Row 3 7
    rwa [show rowI 3 7 = 2 by decide +kernel] at this
  have c8 : FS Try.prog 21 [.int .i64 3, .int .i64 7] (.int .i64 1) := by
    have := fs_Col 3 7
    rwa [show colI 3 7 = 1 by decide +kernel] at this
  have c9 : FS Try.prog 17 [.int .i64 3, .int .i64 0, .int .i64 3] (.int .i64 (-1)) := by
    have := fs_Place 3 0 3
    rwa [show plI 3 0 3 = -1 by decide +kernel] at this
  repeat' (conv => whnf); first
    | ((refine Or.inl ⟨by rfl, _, c0, ?_⟩))
    | ((refine Or.inl ⟨by rfl, _, c1, ?_⟩))
    | ((refine Or.inl ⟨by rfl, _, c2, ?_⟩))
    | ((refine Or.inl ⟨by rfl, _, c3, ?_⟩))
    | ((refine Or.inl ⟨by rfl, _, c4, ?_⟩))
    | ((refine Or.inl ⟨by rfl, _, c5, ?_⟩))
    | ((refine Or.inl ⟨by rfl, _, c6, ?_⟩))
    | ((refine Or.inl ⟨by rfl, _, c7, ?_⟩))
    | ((refine Or.inl ⟨by rfl, _, c8, ?_⟩))
    | ((refine Or.inl ⟨by rfl, _, c9, ?_⟩))
    | ((refine sgs_go (i := 1) (by rfl) (by rfl) ?_))
    | ((refine ⟨_, eqs0 _ _ _ _, ?_⟩))
    | ((refine Br.beq (by rfl) ?_))
    | ((refine Br.bne (by rfl) ?_))
    | ((refine And.intro (show _ ≤ _ from Nat.le_of_ble_eq_true rfl) ?_))
    | (refine Br.tt ?_)
    | (refine Br.ff ?_)
    | (refine Br.dec (fun h => ?_) (fun h => ?_)) <;> try (exfalso; omega)
    | (refine Br.neg ?_)
    | (refine Br.mk (fun h => ?_) (fun h => ?_))
    | (refine And.intro rfl ?_)
    | (refine And.intro (by omega) ?_)
    | (refine ⟨_, Or.inl ⟨⟨by omega, by omega⟩, rfl⟩, ?_⟩)
    | (refine And.intro (by simp only [lens_all, sgs_len]; first | done | omega) ?_)
    | (refine And.intro (Nat.le_refl _) ?_)
    | fail
  all_goals exact rfl

def ir_fretworklaw17_PartIs : IR :=
(.seq (.reg (⟨(some 6), .mv (.c (.bool false)), none⟩ :: [])) (.seq (.reg (⟨(some 7), .call (.c (.fn 8 [])) [], none⟩ ::⟨(some 8), .mv (.t 7), none⟩ ::⟨(some 9), .mv (.t 0), some (8, true)⟩ ::⟨(some 10), .mv (.t 1), some (8, true)⟩ ::⟨(some 11), .mv (.t 2), some (8, true)⟩ ::⟨(some 12), .call (.c (.fn 9 [])) [(.t 9), (.t 10), (.t 11)], some (8, true)⟩ ::⟨(some 13), .mv (.t 0), some (8, true)⟩ ::⟨(some 14), .mv (.t 1), some (8, true)⟩ ::⟨(some 15), .mv (.t 2), some (8, true)⟩ ::⟨(some 16), .call (.c (.fn 10 [])) [(.t 13), (.t 14), (.t 15)], some (8, true)⟩ ::⟨(some 17), .bin .eql (.t 12) (.t 16), some (8, true)⟩ ::⟨(some 18), .pick (.t 8) (.t 17) (.c (.bool false)), none⟩ ::⟨(some 19), .mv (.t 18), none⟩ ::⟨(some 20), .mv (.t 0), some (19, true)⟩ ::⟨(some 21), .mv (.t 1), some (19, true)⟩ ::⟨(some 22), .mv (.t 2), some (19, true)⟩ ::⟨(some 23), .call (.c (.fn 11 [])) [(.t 20), (.t 21), (.t 22)], some (19, true)⟩ ::⟨(some 24), .mv (.t 0), some (19, true)⟩ ::⟨(some 25), .mv (.t 1), some (19, true)⟩ ::⟨(some 26), .mv (.t 2), some (19, true)⟩ ::⟨(some 27), .call (.c (.fn 12 [])) [(.t 24), (.t 25), (.t 26)], some (19, true)⟩ ::⟨(some 28), .bin .eql (.t 23) (.t 27), some (19, true)⟩ ::⟨(some 29), .pick (.t 19) (.t 28) (.c (.bool false)), none⟩ ::⟨(some 30), .mv (.t 29), none⟩ ::⟨(some 31), .mv (.t 0), some (30, true)⟩ ::⟨(some 32), .mv (.t 1), some (30, true)⟩ ::⟨(some 33), .call (.c (.fn 13 [])) [(.t 31), (.t 32)], some (30, true)⟩ ::⟨(some 34), .mv (.t 0), some (30, true)⟩ ::⟨(some 35), .mv (.t 1), some (30, true)⟩ ::⟨(some 36), .call (.c (.fn 14 [])) [(.t 34), (.t 35)], some (30, true)⟩ ::⟨(some 37), .bin .eql (.t 33) (.t 36), some (30, true)⟩ ::⟨(some 38), .pick (.t 30) (.t 37) (.c (.bool false)), none⟩ ::⟨(some 39), .mv (.t 38), none⟩ ::⟨(some 40), .mv (.t 0), some (39, true)⟩ ::⟨(some 41), .mv (.t 1), some (39, true)⟩ ::⟨(some 42), .mv (.t 2), some (39, true)⟩ ::⟨(some 43), .call (.c (.fn 15 [])) [(.t 40), (.t 41), (.t 42)], some (39, true)⟩ ::⟨(some 44), .mv (.t 0), some (39, true)⟩ ::⟨(some 45), .mv (.t 1), some (39, true)⟩ ::⟨(some 46), .mv (.t 2), some (39, true)⟩ ::⟨(some 47), .call (.c (.fn 16 [])) [(.t 44), (.t 45), (.t 46)], some (39, true)⟩ ::⟨(some 48), .bin .eql (.t 43) (.t 47), some (39, true)⟩ ::⟨(some 49), .pick (.t 39) (.t 48) (.c (.bool false)), none⟩ ::⟨(some 50), .mv (.t 49), none⟩ ::⟨(some 51), .mv (.t 0), some (50, true)⟩ ::⟨(some 52), .mv (.t 1), some (50, true)⟩ ::⟨(some 53), .mv (.t 2), some (50, true)⟩ ::⟨(some 54), .call (.c (.fn 17 [])) [(.t 51), (.t 52), (.t 53)], some (50, true)⟩ ::⟨(some 55), .mv (.t 0), some (50, true)⟩ ::⟨(some 56), .mv (.t 1), some (50, true)⟩ ::⟨(some 57), .mv (.t 2), some (50, true)⟩ ::⟨(some 58), .call (.c (.fn 18 [])) [(.t 55), (.t 56), (.t 57)], some (50, true)⟩ ::⟨(some 59), .bin .eql (.t 54) (.t 58), some (50, true)⟩ ::⟨(some 60), .pick (.t 50) (.t 59) (.c (.bool false)), none⟩ ::⟨(some 61), .mv (.t 60), none⟩ ::⟨(some 62), .mv (.t 0), some (61, true)⟩ ::⟨(some 63), .mv (.t 2), some (61, true)⟩ ::⟨(some 64), .call (.c (.fn 19 [])) [(.t 62), (.t 63)], some (61, true)⟩ ::⟨(some 65), .mv (.t 0), some (61, true)⟩ ::⟨(some 66), .mv (.t 2), some (61, true)⟩ ::⟨(some 67), .call (.c (.fn 20 [])) [(.t 65), (.t 66)], some (61, true)⟩ ::⟨(some 68), .bin .eql (.t 64) (.t 67), some (61, true)⟩ ::⟨(some 69), .pick (.t 61) (.t 68) (.c (.bool false)), none⟩ ::⟨(some 70), .mv (.t 69), none⟩ ::⟨(some 71), .mv (.t 0), some (70, true)⟩ ::⟨(some 72), .mv (.t 2), some (70, true)⟩ ::⟨(some 73), .call (.c (.fn 21 [])) [(.t 71), (.t 72)], some (70, true)⟩ ::⟨(some 74), .mv (.t 0), some (70, true)⟩ ::⟨(some 75), .mv (.t 2), some (70, true)⟩ ::⟨(some 76), .call (.c (.fn 22 [])) [(.t 74), (.t 75)], some (70, true)⟩ ::⟨(some 77), .bin .eql (.t 73) (.t 76), some (70, true)⟩ ::⟨(some 78), .pick (.t 70) (.t 77) (.c (.bool false)), none⟩ ::⟨(some 6), .mv (.t 78), none⟩ :: [])) .ret))
theorem cd_fretworklaw17_PartIs : Code1 Try.prog 3 79 ir_fretworklaw17_PartIs [.t 6] := ⟨Try.call3, _, _, Try.func3, rfl, by kernel_rfl, by kernel_rfl, by kernel_rfl, by kernel_rfl⟩

set_option maxHeartbeats 4000000 in
theorem fs_PartIs (n k i : Int) (hk : I64 k) : FS Try.prog 3 [.int .i64 n, .int .i64 k, .int .i64 i] (.bool true) := by
  refine fs_of_cvc mixed cd_fretworklaw17_PartIs (by simp) ?_
  have a1 := fs_Low n k i
  have b1 := fs_rLow n k i
  have a2 := fs_Size n k i hk
  have b2 := fs_rSize n k i hk
  have a3 := fs_Most n k
  have b3 := fs_rMost n k
  have a4 := fs_Of n k i
  have b4 := fs_rOf n k i
  have a5 := fs_Place n k i
  have b5 := fs_rPlace n k i
  have a6 := fs_Row n i
  have b6 := fs_rRow n i
  have a7 := fs_Col n i
  have b7 := fs_rCol n i
  generalize lowI n k i = x1 at *
  generalize sizeI n k i = x2 at *
  generalize mostI n k = x3 at *
  generalize ofI n k i = x4 at *
  generalize plI n k i = x5 at *
  generalize rowI n i = x6 at *
  generalize colI n i = x7 at *
  repeat' (conv => whnf); first
    | ((refine Or.inl ⟨by rfl, _, a1, ?_⟩))
    | ((refine Or.inl ⟨by rfl, _, b1, ?_⟩))
    | ((refine Or.inl ⟨by rfl, _, a2, ?_⟩))
    | ((refine Or.inl ⟨by rfl, _, b2, ?_⟩))
    | ((refine Or.inl ⟨by rfl, _, a3, ?_⟩))
    | ((refine Or.inl ⟨by rfl, _, b3, ?_⟩))
    | ((refine Or.inl ⟨by rfl, _, a4, ?_⟩))
    | ((refine Or.inl ⟨by rfl, _, b4, ?_⟩))
    | ((refine Or.inl ⟨by rfl, _, a5, ?_⟩))
    | ((refine Or.inl ⟨by rfl, _, b5, ?_⟩))
    | ((refine Or.inl ⟨by rfl, _, a6, ?_⟩))
    | ((refine Or.inl ⟨by rfl, _, b6, ?_⟩))
    | ((refine Or.inl ⟨by rfl, _, a7, ?_⟩))
    | ((refine Or.inl ⟨by rfl, _, b7, ?_⟩))
    | ((refine Or.inl ⟨by rfl, _, fs_live17, ?_⟩))
    | ((refine Br.beq (by rfl) ?_))
    | ((refine Br.bne (by rfl) ?_))
    | ((refine And.intro (show _ ≤ _ from Nat.le_of_ble_eq_true rfl) ?_))
    | (refine Br.tt ?_)
    | (refine Br.ff ?_)
    | (refine Br.dec (fun h => ?_) (fun h => ?_)) <;> try (exfalso; omega)
    | (refine Br.neg ?_)
    | (refine Br.mk (fun h => ?_) (fun h => ?_))
    | (refine And.intro rfl ?_)
    | (refine And.intro (by omega) ?_)
    | (refine ⟨_, Or.inl ⟨⟨by omega, by omega⟩, rfl⟩, ?_⟩)
    | (refine And.intro (by simp only [lens_all, sgs_len]; first | done | omega) ?_)
    | (refine And.intro (Nat.le_refl _) ?_)
    | fail
  all_goals first
    | exact rfl
    | (show SV.bool (decide _) = SV.bool true; simp; done)

def ir_fretworklaw17_PartSegments : IR :=
(.seq (.reg (⟨(some 6), .mv (.c (.bool false)), none⟩ :: [])) (.seq (.reg (⟨(some 7), .call (.c (.fn 8 [])) [], none⟩ ::⟨(some 8), .mv (.t 7), none⟩ ::⟨(some 9), .mv (.t 0), some (8, true)⟩ ::⟨(some 10), .mv (.t 1), some (8, true)⟩ ::⟨(some 11), .mv (.t 2), some (8, true)⟩ ::⟨(some 12), .call (.c (.fn 24 [])) [(.t 9), (.t 10), (.t 11)], some (8, true)⟩ ::⟨(some 13), .mv (.t 0), some (8, true)⟩ ::⟨(some 14), .mv (.t 1), some (8, true)⟩ ::⟨(some 15), .mv (.t 2), some (8, true)⟩ ::⟨(some 16), .call (.c (.fn 25 [])) [(.t 13), (.t 14), (.t 15)], some (8, true)⟩ ::⟨(some 17), .call (.c (.fn 23 [])) [(.t 12), (.t 16)], some (8, true)⟩ ::⟨(some 18), .pick (.t 8) (.t 17) (.c (.bool false)), none⟩ ::⟨(some 6), .mv (.t 18), none⟩ :: [])) .ret))
theorem cd_fretworklaw17_PartSegments : Code1 Try.prog 4 19 ir_fretworklaw17_PartSegments [.t 6] := ⟨Try.call4, _, _, Try.func4, rfl, by kernel_rfl, by kernel_rfl, by kernel_rfl, by kernel_rfl⟩

theorem fs_PartSegments (n r c : Int) : FS Try.prog 4 [.int .i64 n, .int .i64 r, .int .i64 c] (.bool true) := by
  refine fs_of_cvc mixed cd_fretworklaw17_PartSegments (by simp) ?_
  have a1 := fs_Segments n r c
  have b1 := fs_rSegments n r c
  have c1 := fs_sameSeg (segR n r c) (segR_len n r c)
  generalize segR n r c = L at *
  repeat' (conv => whnf); first
    | ((refine Or.inl ⟨by rfl, _, a1, ?_⟩))
    | ((refine Or.inl ⟨by rfl, _, b1, ?_⟩))
    | ((refine Or.inl ⟨by rfl, _, c1, ?_⟩))
    | ((refine Or.inl ⟨by rfl, _, fs_live17, ?_⟩))
    | ((refine Br.beq (by rfl) ?_))
    | ((refine Br.bne (by rfl) ?_))
    | ((refine And.intro (show _ ≤ _ from Nat.le_of_ble_eq_true rfl) ?_))
    | (refine Br.tt ?_)
    | (refine Br.ff ?_)
    | (refine Br.dec (fun h => ?_) (fun h => ?_)) <;> try (exfalso; omega)
    | (refine Br.neg ?_)
    | (refine Br.mk (fun h => ?_) (fun h => ?_))
    | (refine And.intro rfl ?_)
    | (refine And.intro (by omega) ?_)
    | (refine ⟨_, Or.inl ⟨⟨by omega, by omega⟩, rfl⟩, ?_⟩)
    | (refine And.intro (by simp only [lens_all, sgs_len]; first | done | omega) ?_)
    | (refine And.intro (Nat.le_refl _) ?_)
    | fail
  all_goals exact rfl
end
section
open Go.RowKit
attribute [local irreducible] FS FO IT HS

theorem tm_bd {x m : Int} (h0 : 0 ≤ x) (hm : 0 < m) : 0 ≤ x.tmod m ∧ x.tmod m < m := by
  rw [Int.tmod_eq_emod_of_nonneg h0]
  exact ⟨Int.emod_nonneg _ (by omega), Int.emod_lt_of_pos _ hm⟩
theorem pl_back {q x y : Int} (h0 : 0 < q) (h1 : q ≤ 8) (hx : 0 ≤ x) (hx' : x < 8) (hy : 0 ≤ y) (hy' : y < q) : plI q x y = x * q + y ∧ rowI q (x * q + y) = x ∧ colI q (x * q + y) = y := by
  have hs : sideB q = true := sideB_iff.2 ⟨h0, h1⟩
  have hb : 0 ≤ x * q := Int.mul_nonneg hx (by omega)
  have hb2 : x * q + y < q * 8 := by
    have : x * q ≤ 7 * q := Int.mul_le_mul_of_nonneg_right (by omega) (by omega)
    omega
  refine ⟨if_pos ⟨hs, hx, hx', hy, hy'⟩, ?_, ?_⟩
  · unfold rowI
    rw [if_pos ⟨hs, by omega, hb2⟩, Int.add_comm, Int.add_mul_ediv_right _ _ (by omega), Int.ediv_eq_zero_of_lt hy hy', Int.zero_add]
  · unfold colI
    rw [if_pos ⟨hs, by omega, hb2⟩, Int.add_comm, Int.add_mul_emod_self_right, Int.emod_eq_of_lt hy hy']

def ir_fretworklaw17_PartPlaces : IR :=
(.seq (.reg (⟨(some 6), .mv (.c (.bool false)), none⟩ :: [])) (.seq (.reg (⟨(some 11), .mv (.t 0), none⟩ ::⟨(some 12), .cv .i64 (.t 11), none⟩ ::⟨(some 13), .bin .rem (.t 12) (.c (.int .i64 8)), none⟩ ::⟨(some 14), .bin .add (.t 13) (.c (.int .i64 1)), none⟩ ::⟨(some 7), .mv (.t 14), none⟩ :: [])) (.seq (.draw (⟨(some 15), .mv (.t 1), none⟩ ::⟨(some 16), .cv .i64 (.t 15), none⟩ ::⟨(some 17), .bin .rem (.t 16) (.c (.int .i64 8)), none⟩ ::⟨(some 18), .mv (.t 2), none⟩ ::⟨(some 19), .cv .i64 (.t 18), none⟩ ::⟨(some 20), .mv (.t 7), none⟩ ::⟨(some 21), .bin .rem (.t 19) (.t 20), none⟩ ::⟨(some 8), .mv (.t 17), none⟩ :: []) (⟨(some 9), .mv (.t 21), none⟩ :: [])) (.seq (.reg (⟨(some 22), .mv (.t 7), none⟩ ::⟨(some 23), .mv (.t 8), none⟩ ::⟨(some 24), .mv (.t 9), none⟩ ::⟨(some 25), .call (.c (.fn 17 [])) [(.t 22), (.t 23), (.t 24)], none⟩ ::⟨(some 10), .mv (.t 25), none⟩ :: [])) (.seq (.reg (⟨(some 26), .call (.c (.fn 8 [])) [], none⟩ ::⟨(some 27), .mv (.t 26), none⟩ ::⟨(some 28), .mv (.t 7), some (27, true)⟩ ::⟨(some 29), .mv (.t 10), some (27, true)⟩ ::⟨(some 30), .call (.c (.fn 19 [])) [(.t 28), (.t 29)], some (27, true)⟩ ::⟨(some 31), .mv (.t 8), some (27, true)⟩ ::⟨(some 32), .bin .eql (.t 30) (.t 31), some (27, true)⟩ ::⟨(some 33), .pick (.t 27) (.t 32) (.c (.bool false)), none⟩ ::⟨(some 34), .mv (.t 33), none⟩ ::⟨(some 35), .mv (.t 7), some (34, true)⟩ ::⟨(some 36), .mv (.t 10), some (34, true)⟩ ::⟨(some 37), .call (.c (.fn 21 [])) [(.t 35), (.t 36)], some (34, true)⟩ ::⟨(some 38), .mv (.t 9), some (34, true)⟩ ::⟨(some 39), .bin .eql (.t 37) (.t 38), some (34, true)⟩ ::⟨(some 40), .pick (.t 34) (.t 39) (.c (.bool false)), none⟩ ::⟨(some 6), .mv (.t 40), none⟩ :: [])) .ret)))))
theorem cd_fretworklaw17_PartPlaces : Code1 Try.prog 7 41 ir_fretworklaw17_PartPlaces [.t 6] := ⟨Try.call7, _, _, Try.func7, rfl, by kernel_rfl, by kernel_rfl, by kernel_rfl, by kernel_rfl⟩

set_option maxHeartbeats 4000000 in
theorem fs_PartPlaces (c i j : Int) (hc : 0 ≤ c ∧ c ≤ 255) (hi : 0 ≤ i ∧ i ≤ 255) (hj : 0 ≤ j ∧ j ≤ 255) : FS Try.prog 7 [.int .u8 c, .int .u8 i, .int .u8 j] (.bool true) := by
  refine fs_of_cvc mixed cd_fretworklaw17_PartPlaces (by simp) ?_
  have t1 := tm_bd hc.1 (show (0 : Int) < 8 by omega)
  have t2 := tm_bd hi.1 (show (0 : Int) < 8 by omega)
  have t3 := tm_bd hj.1 (show (0 : Int) < c.tmod 8 + 1 by omega)
  obtain ⟨e1, e2, e3⟩ := pl_back (q := c.tmod 8 + 1) (by omega) (by omega) t2.1 t2.2 t3.1 t3.2
  have c1 := fs_Place (c.tmod 8 + 1) (i.tmod 8) (j.tmod (c.tmod 8 + 1))
  rw [e1] at c1
  have c2 := fs_Row (c.tmod 8 + 1) (i.tmod 8 * (c.tmod 8 + 1) + j.tmod (c.tmod 8 + 1))
  rw [e2] at c2
  have c3 := fs_Col (c.tmod 8 + 1) (i.tmod 8 * (c.tmod 8 + 1) + j.tmod (c.tmod 8 + 1))
  rw [e3] at c3
  generalize i.tmod 8 * (c.tmod 8 + 1) + j.tmod (c.tmod 8 + 1) = p at *
  repeat' (conv => whnf); first
    | ((refine Or.inl ⟨by rfl, _, c1, ?_⟩))
    | ((refine Or.inl ⟨by rfl, _, c2, ?_⟩))
    | ((refine Or.inl ⟨by rfl, _, c3, ?_⟩))
    | ((refine Or.inl ⟨by rfl, _, fs_live17, ?_⟩))
    | ((refine Br.beq (by rfl) ?_))
    | ((refine Br.bne (by rfl) ?_))
    | ((refine And.intro (show (_ : Int) ≠ 0 by omega) ?_))
    | ((refine ar_tdiv (by omega) (by omega) (by omega) ?_))
    | (refine Br.tt ?_)
    | (refine Br.ff ?_)
    | (refine Br.dec (fun h => ?_) (fun h => ?_)) <;> try (exfalso; omega)
    | (refine Br.neg ?_)
    | (refine Br.mk (fun h => ?_) (fun h => ?_))
    | (refine And.intro rfl ?_)
    | (refine And.intro (by omega) ?_)
    | (refine ⟨_, Or.inl ⟨⟨by omega, by omega⟩, rfl⟩, ?_⟩)
    | (refine And.intro (by simp only [lens_all, sgs_len]; first | done | omega) ?_)
    | (refine And.intro (Nat.le_refl _) ?_)
    | fail
  all_goals first
    | exact rfl
    | (show SV.bool (decide _) = SV.bool true; simp; done)
    | exact absurd rfl h
end
section
open Go.RowKit
attribute [local irreducible] FS FO IT HS

theorem size_bd {m q i : Int} (hm : mayB m q = true) (h0 : 0 ≤ i) (h1 : i < q) : m / q ≤ lowI m q (i + 1) - lowI m q i ∧ lowI m q (i + 1) - lowI m q i ≤ m / q + 1 ∧ lowI m q (i + 1) - lowI m q i ≤ mostI m q := by
  obtain ⟨g0, g1, g2, g3⟩ := mayB_iff.1 hm
  rw [low_mid hm (by omega) (by omega), low_mid hm h0 (by omega), most_eq hm, Int.add_mul, Int.one_mul]
  generalize i * m = a
  have : q = 1 ∨ q = 2 ∨ q = 3 ∨ q = 4 ∨ q = 5 ∨ q = 6 ∨ q = 7 ∨ q = 8 := by omega
  rcases this with rfl | rfl | rfl | rfl | rfl | rfl | rfl | rfl <;> split <;> omega

def ir_fretworklaw17_PartOnce : IR :=
(.seq (.reg (⟨(some 4), .mv (.c (.bool false)), none⟩ :: [])) (.seq (.reg (⟨(some 11), .mv (.t 0), none⟩ ::⟨(some 12), .cv .i64 (.t 11), none⟩ ::⟨(some 13), .bin .rem (.t 12) (.c (.int .i64 600)), none⟩ ::⟨(some 14), .mv (.t 1), none⟩ ::⟨(some 15), .cv .i64 (.t 14), none⟩ ::⟨(some 16), .bin .rem (.t 15) (.c (.int .i64 8)), none⟩ ::⟨(some 17), .bin .add (.t 16) (.c (.int .i64 1)), none⟩ ::⟨(some 5), .mv (.t 13), none⟩ ::⟨(some 6), .mv (.t 17), none⟩ :: [])) (.seq (.reg (⟨(some 7), .mv (.c (.int .i64 0)), none⟩ :: [])) (.seq (.seq (.reg (⟨(some 8), .mv (.c (.int .i64 0)), none⟩ :: [])) (.block 0 (.loop (.seq (.seq (.reg (⟨(some 18), .mv (.t 8), none⟩ ::⟨(some 19), .mv (.t 6), none⟩ ::⟨(some 20), .bin .lss (.t 18) (.t 19), none⟩ :: [])) (.cond (.t 20) .skip (.exit 0))) (.seq (.block 1 (.seq (.reg (⟨(some 23), .mv (.t 5), none⟩ ::⟨(some 24), .mv (.t 6), none⟩ ::⟨(some 25), .mv (.t 8), none⟩ ::⟨(some 26), .call (.c (.fn 11 [])) [(.t 23), (.t 24), (.t 25)], none⟩ ::⟨(some 9), .mv (.t 26), none⟩ :: [])) (.seq (.seq (.reg (⟨(some 27), .mv (.t 5), none⟩ ::⟨(some 28), .mv (.t 6), none⟩ ::⟨(some 29), .mv (.t 8), none⟩ ::⟨(some 30), .call (.c (.fn 9 [])) [(.t 27), (.t 28), (.t 29)], none⟩ ::⟨(some 31), .mv (.t 7), none⟩ ::⟨(some 32), .bin .neq (.t 30) (.t 31), none⟩ ::⟨(some 33), .mv (.t 32), none⟩ ::⟨(some 34), .mv (.t 9), some (33, false)⟩ ::⟨(some 35), .mv (.t 5), some (33, false)⟩ ::⟨(some 36), .mv (.t 6), some (33, false)⟩ ::⟨(some 37), .bin .quo (.t 35) (.t 36), some (33, false)⟩ ::⟨(some 38), .bin .lss (.t 34) (.t 37), some (33, false)⟩ ::⟨(some 39), .pick (.t 33) (.c (.bool true)) (.t 38), none⟩ ::⟨(some 40), .mv (.t 39), none⟩ ::⟨(some 41), .mv (.t 9), some (40, false)⟩ ::⟨(some 42), .mv (.t 5), some (40, false)⟩ ::⟨(some 43), .mv (.t 6), some (40, false)⟩ ::⟨(some 44), .bin .quo (.t 42) (.t 43), some (40, false)⟩ ::⟨(some 45), .bin .add (.t 44) (.c (.int .i64 1)), some (40, false)⟩ ::⟨(some 46), .bin .gtr (.t 41) (.t 45), some (40, false)⟩ ::⟨(some 47), .pick (.t 40) (.c (.bool true)) (.t 46), none⟩ ::⟨(some 48), .mv (.t 47), none⟩ ::⟨(some 49), .mv (.t 9), some (48, false)⟩ ::⟨(some 50), .mv (.t 5), some (48, false)⟩ ::⟨(some 51), .mv (.t 6), some (48, false)⟩ ::⟨(some 52), .call (.c (.fn 13 [])) [(.t 50), (.t 51)], some (48, false)⟩ ::⟨(some 53), .bin .gtr (.t 49) (.t 52), some (48, false)⟩ ::⟨(some 54), .pick (.t 48) (.c (.bool true)) (.t 53), none⟩ :: [])) (.cond (.t 54) (.seq (.reg (⟨(some 4), .mv (.c (.bool false)), none⟩ :: [])) .ret) .skip)) (.seq (.seq (.reg (⟨(some 10), .mv (.c (.int .i64 0)), none⟩ :: [])) (.block 2 (.loop (.seq (.seq (.reg (⟨(some 55), .mv (.t 10), none⟩ ::⟨(some 56), .mv (.t 9), none⟩ ::⟨(some 57), .bin .lss (.t 55) (.t 56), none⟩ :: [])) (.cond (.t 57) .skip (.exit 2))) (.seq (.block 3 (.seq (.reg (⟨(some 60), .mv (.t 5), none⟩ ::⟨(some 61), .mv (.t 6), none⟩ ::⟨(some 62), .mv (.t 7), none⟩ ::⟨(some 63), .mv (.t 10), none⟩ ::⟨(some 64), .bin .add (.t 62) (.t 63), none⟩ ::⟨(some 65), .call (.c (.fn 15 [])) [(.t 60), (.t 61), (.t 64)], none⟩ ::⟨(some 66), .mv (.t 8), none⟩ ::⟨(some 67), .bin .neq (.t 65) (.t 66), none⟩ :: [])) (.cond (.t 67) (.seq (.reg (⟨(some 4), .mv (.c (.bool false)), none⟩ :: [])) .ret) .skip))) (.reg (⟨(some 58), .mv (.t 10), none⟩ ::⟨(some 59), .bin .add (.t 58) (.c (.int .i64 1)), none⟩ ::⟨(some 10), .mv (.t 59), none⟩ :: []))))))) (.reg (⟨(some 68), .mv (.t 7), none⟩ ::⟨(some 69), .mv (.t 9), none⟩ ::⟨(some 70), .bin .add (.t 68) (.t 69), none⟩ ::⟨(some 7), .mv (.t 70), none⟩ :: [])))))) (.reg (⟨(some 21), .mv (.t 8), none⟩ ::⟨(some 22), .bin .add (.t 21) (.c (.int .i64 1)), none⟩ ::⟨(some 8), .mv (.t 22), none⟩ :: []))))))) (.seq (.reg (⟨(some 71), .call (.c (.fn 8 [])) [], none⟩ ::⟨(some 72), .mv (.t 71), none⟩ ::⟨(some 73), .mv (.t 7), some (72, true)⟩ ::⟨(some 74), .mv (.t 5), some (72, true)⟩ ::⟨(some 75), .bin .eql (.t 73) (.t 74), some (72, true)⟩ ::⟨(some 76), .pick (.t 72) (.t 75) (.c (.bool false)), none⟩ ::⟨(some 77), .mv (.t 76), none⟩ ::⟨(some 78), .mv (.t 5), some (77, true)⟩ ::⟨(some 79), .mv (.t 6), some (77, true)⟩ ::⟨(some 80), .mv (.t 6), some (77, true)⟩ ::⟨(some 81), .call (.c (.fn 9 [])) [(.t 78), (.t 79), (.t 80)], some (77, true)⟩ ::⟨(some 82), .mv (.t 5), some (77, true)⟩ ::⟨(some 83), .bin .eql (.t 81) (.t 82), some (77, true)⟩ ::⟨(some 84), .pick (.t 77) (.t 83) (.c (.bool false)), none⟩ ::⟨(some 4), .mv (.t 84), none⟩ :: [])) .ret)))))
theorem cd_fretworklaw17_PartOnce : Code1 Try.prog 5 85 ir_fretworklaw17_PartOnce [.t 4] := ⟨Try.call5, _, _, Try.func5, rfl, by kernel_rfl, by kernel_rfl, by kernel_rfl, by kernel_rfl⟩

set_option maxHeartbeats 8000000 in
theorem fs_PartOnce (n k : Int) (hn : 0 ≤ n ∧ n ≤ 65535) (hk : 0 ≤ k ∧ k ≤ 255) : FS Try.prog 5 [.int .u16 n, .int .u8 k] (.bool true) := by
  refine fs_of_cvc mixed cd_fretworklaw17_PartOnce (by simp) ?_
  have t1 := tm_bd hn.1 (show (0 : Int) < 600 by omega)
  have t2 := tm_bd hk.1 (show (0 : Int) < 8 by omega)
  have hm : mayB (n.tmod 600) (k.tmod 8 + 1) = true := mayB_iff.2 ⟨by omega, by omega, by omega, by omega⟩
  have hlow0 := low_zero hm
  repeat' (conv => whnf); first
    | ((refine Br.beq (by rfl) ?_))
    | ((refine Br.bne (by rfl) ?_))
    | ((refine And.intro (show (_ : Int) ≠ 0 by omega) ?_))
    | ((refine ar_tdiv (by omega) (by omega) (by omega) ?_))
    | (refine Br.tt ?_)
    | (refine Br.ff ?_)
    | (refine Br.dec (fun h => ?_) (fun h => ?_)) <;> try (exfalso; omega)
    | (refine Br.neg ?_)
    | (refine Br.mk (fun h => ?_) (fun h => ?_))
    | (refine And.intro rfl ?_)
    | (refine And.intro (by omega) ?_)
    | (refine ⟨_, Or.inl ⟨⟨by omega, by omega⟩, rfl⟩, ?_⟩)
    | (refine And.intro (by simp only [lens_all, sgs_len]; first | done | omega) ?_)
    | (refine And.intro (Nat.le_refl _) ?_)
    | fail
  generalize n.tmod 600 = m at *
  generalize k.tmod 8 + 1 = q at *
  obtain ⟨g0, g1, g2, g3⟩ := mayB_iff.1 hm
  refine ⟨Int, fun i => 0 ≤ i ∧ i ≤ q, fun i => [(5, .int .i64 m), (6, .int .i64 q), (7, .int .i64 (lowI m q i)), (8, .int .i64 i)], fun i => [], fun _ => none, fun i => (q - i).toNat, ⟨0, ⟨by omega, by omega⟩, ⟨rfl, rfl, ?_, rfl, trivial⟩, trivial, rfl⟩, fun i hi => ?_⟩
  · rw [hlow0]; exact rfl
  obtain ⟨i0, i1⟩ := hi
  have b1 := low_bd m q i
  have b2 := low_bd m q (i + 1)
  by_cases hiq : i < q
  · have c1 := fs_Size m q i ⟨by omega, by omega⟩
    have c2 := fs_Low m q i
    have c3 := fs_Most m q
    obtain ⟨s1, s2, s3⟩ := size_bd hm i0 hiq
    have es : sizeI m q i = lowI m q (i + 1) - lowI m q i := if_pos ⟨i0, hiq⟩
    rw [es] at c1
    have hof : ∀ x, lowI m q i ≤ x → x < lowI m q (i + 1) → ofI m q x = i := fun x h h' => ofI_eq hm i0 hiq h h'
    repeat' (conv => whnf); first
      | ((refine Or.inl ⟨by rfl, _, c1, ?_⟩))
      | ((refine Or.inl ⟨by rfl, _, c2, ?_⟩))
      | ((refine Or.inl ⟨by rfl, _, c3, ?_⟩))
      | ((refine Br.beq (by rfl) ?_))
      | ((refine Br.bne (by rfl) ?_))
      | ((refine And.intro (show (_ : Int) ≠ 0 by omega) ?_))
      | ((refine ar_tdiv (by omega) (by omega) (by omega) ?_))
      | (refine Br.tt ?_)
      | (refine Br.ff ?_)
      | (refine Br.dec (fun h => ?_) (fun h => ?_)) <;> try (exfalso; omega)
      | (refine Br.neg ?_)
      | (refine Br.mk (fun h => ?_) (fun h => ?_))
      | (refine And.intro rfl ?_)
      | (refine And.intro (by omega) ?_)
      | (refine ⟨_, Or.inl ⟨⟨by omega, by omega⟩, rfl⟩, ?_⟩)
      | (refine And.intro (by simp only [lens_all, sgs_len]; first | done | omega) ?_)
      | (refine And.intro (Nat.le_refl _) ?_)
      | fail
    refine ⟨Int, fun x => 0 ≤ x ∧ x ≤ lowI m q (i + 1) - lowI m q i, fun x => [(5, .int .i64 m), (6, .int .i64 q), (7, .int .i64 (lowI m q i)), (8, .int .i64 i), (9, .int .i64 (lowI m q (i + 1) - lowI m q i)), (10, .int .i64 x)], fun _ => [], fun _ => none, fun x => (lowI m q (i + 1) - lowI m q i - x).toNat, ⟨0, ⟨by omega, by have := low_mono hm (show i ≤ i + 1 by omega); omega⟩, ⟨rfl, rfl, rfl, rfl, rfl, rfl, trivial⟩, trivial, rfl⟩, fun x hx => ?_⟩
    obtain ⟨x0, x1⟩ := hx
    by_cases hxs : x < lowI m q (i + 1) - lowI m q i
    · have c4 := fs_Of m q (lowI m q i + x)
      rw [hof _ (by omega) (by omega)] at c4
      repeat' (conv => whnf); first
        | ((refine Or.inl ⟨by rfl, _, c4, ?_⟩))
        | ((refine Br.beq (by rfl) ?_))
        | ((refine Br.bne (by rfl) ?_))
        | ((refine And.intro (show (_ : Int) ≠ 0 by omega) ?_))
        | ((refine ar_tdiv (by omega) (by omega) (by omega) ?_))
        | (refine Br.tt ?_)
        | (refine Br.ff ?_)
        | (refine Br.dec (fun h => ?_) (fun h => ?_)) <;> try (exfalso; omega)
        | (refine Br.neg ?_)
        | (refine Br.mk (fun h => ?_) (fun h => ?_))
        | (refine And.intro rfl ?_)
        | (refine And.intro (by omega) ?_)
        | (refine ⟨_, Or.inl ⟨⟨by omega, by omega⟩, rfl⟩, ?_⟩)
        | (refine And.intro (by simp only [lens_all, sgs_len]; first | done | omega) ?_)
        | (refine And.intro (Nat.le_refl _) ?_)
        | fail
      all_goals first
        | exact ⟨x + 1, ⟨by omega, by omega⟩, (show (lowI m q (i + 1) - lowI m q i - (x + 1)).toNat < (lowI m q (i + 1) - lowI m q i - x).toNat by omega), ⟨rfl, rfl, rfl, rfl, rfl, rfl, trivial⟩, trivial, rfl⟩
        | exact absurd rfl h
    · obtain rfl : x = lowI m q (i + 1) - lowI m q i := by omega
      repeat' (conv => whnf); first
        | ((refine Br.beq (by rfl) ?_))
        | ((refine Br.bne (by rfl) ?_))
        | ((refine And.intro (show (_ : Int) ≠ 0 by omega) ?_))
        | ((refine ar_tdiv (by omega) (by omega) (by omega) ?_))
        | (refine Br.tt ?_)
        | (refine Br.ff ?_)
        | (refine Br.dec (fun h => ?_) (fun h => ?_)) <;> try (exfalso; omega)
        | (refine Br.neg ?_)
        | (refine Br.mk (fun h => ?_) (fun h => ?_))
        | (refine And.intro rfl ?_)
        | (refine And.intro (by omega) ?_)
        | (refine ⟨_, Or.inl ⟨⟨by omega, by omega⟩, rfl⟩, ?_⟩)
        | (refine And.intro (by simp only [lens_all, sgs_len]; first | done | omega) ?_)
        | (refine And.intro (Nat.le_refl _) ?_)
        | fail
      refine ⟨i + 1, ⟨by omega, by omega⟩, (show (q - (i + 1)).toNat < (q - i).toNat by omega), ⟨rfl, rfl, ?_, rfl, trivial⟩, trivial, rfl⟩
      show SV.int .i64 _ = SV.int .i64 _
      refine congrArg (SV.int .i64) ?_
      omega
  · obtain rfl : i = q := by omega
    have e := low_big hm (Int.le_refl i)
    have c2 := fs_Low m i i
    rw [e] at c2
    repeat' (conv => whnf); first
      | ((refine Or.inl ⟨by rfl, _, fs_live17, ?_⟩))
      | ((refine Or.inl ⟨by rfl, _, c2, ?_⟩))
      | ((refine Br.beq (by rfl) ?_))
      | ((refine Br.bne (by rfl) ?_))
      | ((refine And.intro (show (_ : Int) ≠ 0 by omega) ?_))
      | ((refine ar_tdiv (by omega) (by omega) (by omega) ?_))
      | (refine Br.tt ?_)
      | (refine Br.ff ?_)
      | (refine Br.dec (fun h => ?_) (fun h => ?_)) <;> try (exfalso; omega)
      | (refine Br.neg ?_)
      | (refine Br.mk (fun h => ?_) (fun h => ?_))
      | (refine And.intro rfl ?_)
      | (refine And.intro (by omega) ?_)
      | (refine ⟨_, Or.inl ⟨⟨by omega, by omega⟩, rfl⟩, ?_⟩)
      | (refine And.intro (by simp only [lens_all, sgs_len]; first | done | omega) ?_)
      | (refine And.intro (Nat.le_refl _) ?_)
      | fail
    all_goals first
      | exact rfl
      | (show SV.bool (decide _) = SV.bool true; simp; done)
      | exact absurd e h
end
end Go.Proofs.Ytjaakpigkoakkaa
