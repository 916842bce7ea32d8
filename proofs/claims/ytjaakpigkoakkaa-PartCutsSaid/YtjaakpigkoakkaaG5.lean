/- The laws on parts: the segments. -/
import Derived.Test.YtjaakpigkoakkaaG4
namespace Go.Proofs.Ytjaakpigkoakkaa
section
open Go.RowKit
attribute [local irreducible] FS FO IT HS

theorem len_sub : ∀ (l m : List Int), l.Pairwise (fun x y => x < y) → (∀ x ∈ l, x ∈ m) → l.length ≤ m.length
  | [], _, _, _ => Nat.zero_le _
  | a :: l, m, hp, hs => by
    have ha := List.pairwise_cons.1 hp
    have hm := hs a (by simp)
    have ih := len_sub l (m.erase a) ha.2 fun x hx => by
      have := ha.1 x hx
      exact (List.mem_erase_of_ne (by omega)).2 (hs x (List.mem_cons_of_mem _ hx))
    rw [List.length_erase_of_mem hm] at ih
    have : 0 < m.length := List.length_pos_of_mem hm
    rw [List.length_cons]
    omega
theorem cut_few {m p q : Int} (hp : mayB m p = true) (hq : mayB m q = true) : ((cutL m p q).length : Int) ≤ p + q - 1 := by
  obtain ⟨_, _, p2, p3⟩ := mayB_iff.1 hp
  obtain ⟨_, _, q2, q3⟩ := mayB_iff.1 hq
  have h := len_sub (cutL m p q) (lwL m p (p - 1).toNat ++ lwL m q q.toNat) (cutL_spec m p q).1 fun x hx => by
    have hc := (((cutL_spec m p q).2 x).1 hx).1
    rw [List.mem_append]
    have hin : ∀ (k : Int) (j : Nat) (i : Int), 0 ≤ i → i < j → lowI m k (i + 1) = x → x ∈ lwL m k j := fun k j i h0 h1 he => by
      unfold lwL
      exact List.mem_map.2 ⟨i.toNat, List.mem_range.2 (by omega), by rw [show ((i.toNat : Nat) : Int) = i by omega]; exact he⟩
    rcases hc with ⟨i, h0, h1, he⟩ | ⟨i, h0, h1, he⟩
    · by_cases hl : i < p - 1
      · exact .inl (hin p _ i h0 (by omega) he)
      · refine .inr (hin q _ (q - 1) (by omega) (by omega) ?_)
        rw [← he, show q - 1 + 1 = q by omega, low_big hq (Int.le_refl _), low_big hp (by omega)]
    · exact .inr (hin q _ i h0 (by omega) he)
  rw [List.length_append, lwL_len, lwL_len] at h
  omega

theorem sgs_go4 {l : List Sg} {z a R C : Int} {q i : Nat} {K : List SV → Prop} (hq : q = i) (hx : l[i]? = some (z, a, R, C)) (h : K [.int .i64 z, .int .i64 a, .int .i64 R, .int .i64 C]) : ∀ x, (sgs l)[q]? = some x → K x := sgs_go hq hx h
def ir_fretworklaw17_PartCuts : IR :=
(.seq (.reg (⟨(some 6), .mv (.c (.bool false)), none⟩ :: [])) (.seq (.reg (⟨(some 14), .mv (.t 0), none⟩ ::⟨(some 15), .cv .i64 (.t 14), none⟩ ::⟨(some 16), .bin .rem (.t 15) (.c (.int .i64 600)), none⟩ ::⟨(some 17), .mv (.t 1), none⟩ ::⟨(some 18), .cv .i64 (.t 17), none⟩ ::⟨(some 19), .bin .rem (.t 18) (.c (.int .i64 8)), none⟩ ::⟨(some 20), .bin .add (.t 19) (.c (.int .i64 1)), none⟩ ::⟨(some 21), .mv (.t 2), none⟩ ::⟨(some 22), .cv .i64 (.t 21), none⟩ ::⟨(some 23), .bin .rem (.t 22) (.c (.int .i64 8)), none⟩ ::⟨(some 24), .bin .add (.t 23) (.c (.int .i64 1)), none⟩ ::⟨(some 7), .mv (.t 16), none⟩ ::⟨(some 8), .mv (.t 20), none⟩ ::⟨(some 9), .mv (.t 24), none⟩ :: [])) (.seq (.reg (⟨(some 25), .mv (.t 7), none⟩ ::⟨(some 26), .mv (.t 8), none⟩ ::⟨(some 27), .mv (.t 9), none⟩ ::⟨(some 28), .call (.c (.fn 24 [])) [(.t 25), (.t 26), (.t 27)], none⟩ ::⟨(some 10), .mv (.t 28), none⟩ :: [])) (.seq (.reg (⟨(some 11), .mv (.c (.int .i64 0)), none⟩ :: [])) (.seq (.seq (.reg (⟨(some 12), .mv (.c (.int .i64 0)), none⟩ :: [])) (.block 0 (.loop (.seq (.seq (.reg (⟨(some 29), .mv (.t 12), none⟩ ::⟨(some 30), .mv (.t 10), none⟩ ::⟨(some 31), .ln (.t 30), none⟩ ::⟨(some 32), .bin .lss (.t 29) (.t 31), none⟩ :: [])) (.cond (.t 32) .skip (.exit 0))) (.seq (.block 1 (.seq (.reg (⟨(some 35), .mv (.t 10), none⟩ ::⟨(some 36), .mv (.t 12), none⟩ ::⟨(some 37), .ia 4 (.t 35) (.t 36), none⟩ ::⟨(some 38), .ld 4 true (.t 37), none⟩ ::⟨(some 13), .al [.int .i64 0, .int .i64 0, .int .i64 0, .int .i64 0], none⟩ ::⟨none, .st 4 (.t 13) (.t 38), none⟩ :: [])) (.seq (.seq (.draw (⟨(some 39), .fa 0 (.t 13), none⟩ ::⟨(some 40), .ld 1 false (.t 39), none⟩ ::⟨(some 41), .mv (.t 11), none⟩ ::⟨(some 42), .bin .neq (.t 40) (.t 41), none⟩ ::⟨(some 43), .mv (.t 42), none⟩ ::⟨(some 44), .fa 1 (.t 13), some (43, false)⟩ ::⟨(some 45), .ld 1 false (.t 44), some (43, false)⟩ ::⟨(some 46), .fa 0 (.t 13), some (43, false)⟩ ::⟨(some 47), .ld 1 false (.t 46), some (43, false)⟩ ::⟨(some 48), .bin .leq (.t 45) (.t 47), some (43, false)⟩ ::⟨(some 49), .pick (.t 43) (.c (.bool true)) (.t 48), none⟩ ::⟨(some 50), .mv (.t 49), none⟩ ::⟨(some 51), .mv (.t 7), some (50, false)⟩ ::⟨(some 52), .mv (.t 8), some (50, false)⟩ ::⟨(some 53), .fa 0 (.t 13), some (50, false)⟩ ::⟨(some 54), .ld 1 false (.t 53), some (50, false)⟩ ::⟨(some 55), .call (.c (.fn 15 [])) [(.t 51), (.t 52), (.t 54)], some (50, false)⟩ ::⟨(some 56), .fa 2 (.t 13), some (50, false)⟩ ::⟨(some 57), .ld 1 false (.t 56), some (50, false)⟩ ::⟨(some 58), .bin .neq (.t 55) (.t 57), some (50, false)⟩ ::⟨(some 59), .pick (.t 50) (.c (.bool true)) (.t 58), none⟩ ::⟨(some 60), .mv (.t 59), none⟩ ::⟨(some 61), .mv (.t 7), some (60, false)⟩ ::⟨(some 62), .mv (.t 8), some (60, false)⟩ ::⟨(some 63), .fa 1 (.t 13), some (60, false)⟩ ::⟨(some 64), .ld 1 false (.t 63), some (60, false)⟩ ::⟨(some 65), .bin .sub (.t 64) (.c (.int .i64 1)), some (60, false)⟩ ::⟨(some 66), .call (.c (.fn 15 [])) [(.t 61), (.t 62), (.t 65)], some (60, false)⟩ ::⟨(some 67), .fa 2 (.t 13), some (60, false)⟩ ::⟨(some 68), .ld 1 false (.t 67), some (60, false)⟩ ::⟨(some 69), .bin .neq (.t 66) (.t 68), some (60, false)⟩ ::⟨(some 70), .pick (.t 60) (.c (.bool true)) (.t 69), none⟩ ::⟨(some 71), .mv (.t 70), none⟩ ::⟨(some 72), .mv (.t 7), some (71, false)⟩ ::⟨(some 73), .mv (.t 9), some (71, false)⟩ ::⟨(some 74), .fa 0 (.t 13), some (71, false)⟩ ::⟨(some 75), .ld 1 false (.t 74), some (71, false)⟩ ::⟨(some 76), .call (.c (.fn 15 [])) [(.t 72), (.t 73), (.t 75)], some (71, false)⟩ ::⟨(some 77), .fa 3 (.t 13), some (71, false)⟩ ::⟨(some 78), .ld 1 false (.t 77), some (71, false)⟩ ::⟨(some 79), .bin .neq (.t 76) (.t 78), some (71, false)⟩ ::⟨(some 80), .pick (.t 71) (.c (.bool true)) (.t 79), none⟩ ::⟨(some 81), .mv (.t 80), none⟩ ::⟨(some 82), .mv (.t 7), some (81, false)⟩ ::⟨(some 83), .mv (.t 9), some (81, false)⟩ ::⟨(some 84), .fa 1 (.t 13), some (81, false)⟩ ::⟨(some 85), .ld 1 false (.t 84), some (81, false)⟩ ::⟨(some 86), .bin .sub (.t 85) (.c (.int .i64 1)), some (81, false)⟩ ::⟨(some 87), .call (.c (.fn 15 [])) [(.t 82), (.t 83), (.t 86)], some (81, false)⟩ ::⟨(some 88), .fa 3 (.t 13), some (81, false)⟩ ::⟨(some 89), .ld 1 false (.t 88), some (81, false)⟩ :: []) (⟨(some 90), .bin .neq (.t 87) (.t 89), some (81, false)⟩ ::⟨(some 91), .pick (.t 81) (.c (.bool true)) (.t 90), none⟩ :: [])) (.cond (.t 91) (.seq (.reg (⟨(some 6), .mv (.c (.bool false)), none⟩ :: [])) .ret) .skip)) (.reg (⟨(some 92), .fa 1 (.t 13), none⟩ ::⟨(some 93), .ld 1 false (.t 92), none⟩ ::⟨(some 11), .mv (.t 93), none⟩ :: []))))) (.reg (⟨(some 33), .mv (.t 12), none⟩ ::⟨(some 34), .bin .add (.t 33) (.c (.int .i64 1)), none⟩ ::⟨(some 12), .mv (.t 34), none⟩ :: []))))))) (.seq (.reg (⟨(some 94), .call (.c (.fn 8 [])) [], none⟩ ::⟨(some 95), .mv (.t 94), none⟩ ::⟨(some 96), .mv (.t 11), some (95, true)⟩ ::⟨(some 97), .mv (.t 7), some (95, true)⟩ ::⟨(some 98), .bin .eql (.t 96) (.t 97), some (95, true)⟩ ::⟨(some 99), .pick (.t 95) (.t 98) (.c (.bool false)), none⟩ ::⟨(some 100), .mv (.t 99), none⟩ ::⟨(some 101), .mv (.t 10), some (100, true)⟩ ::⟨(some 102), .ln (.t 101), some (100, true)⟩ ::⟨(some 103), .mv (.t 8), some (100, true)⟩ ::⟨(some 104), .mv (.t 9), some (100, true)⟩ ::⟨(some 105), .bin .add (.t 103) (.t 104), some (100, true)⟩ ::⟨(some 106), .bin .sub (.t 105) (.c (.int .i64 1)), some (100, true)⟩ ::⟨(some 107), .bin .leq (.t 102) (.t 106), some (100, true)⟩ ::⟨(some 108), .pick (.t 100) (.t 107) (.c (.bool false)), none⟩ ::⟨(some 6), .mv (.t 108), none⟩ :: [])) .ret))))))
theorem cd_fretworklaw17_PartCuts : Code1 Try.prog 6 109 ir_fretworklaw17_PartCuts [.t 6] := ⟨Try.call6, _, _, Try.func6, rfl, by kernel_rfl, by kernel_rfl, by kernel_rfl, by kernel_rfl⟩

set_option maxHeartbeats 8000000 in
theorem fs_PartCuts (n r c : Int) (hn : 0 ≤ n ∧ n ≤ 65535) (hr : 0 ≤ r ∧ r ≤ 255) (hc : 0 ≤ c ∧ c ≤ 255) : FS Try.prog 6 [.int .u16 n, .int .u8 r, .int .u8 c] (.bool true) := by
  refine fs_of_cvc mixed cd_fretworklaw17_PartCuts (by simp) ?_
  have t1 := tm_bd hn.1 (show (0 : Int) < 600 by omega)
  have t2 := tm_bd hr.1 (show (0 : Int) < 8 by omega)
  have t3 := tm_bd hc.1 (show (0 : Int) < 8 by omega)
  have hp : mayB (n.tmod 600) (r.tmod 8 + 1) = true := mayB_iff.2 ⟨by omega, by omega, by omega, by omega⟩
  have hq : mayB (n.tmod 600) (c.tmod 8 + 1) = true := mayB_iff.2 ⟨by omega, by omega, by omega, by omega⟩
  have c0 := fs_Segments (n.tmod 600) (r.tmod 8 + 1) (c.tmod 8 + 1)
  have e0 : segR (n.tmod 600) (r.tmod 8 + 1) (c.tmod 8 + 1) = segS (n.tmod 600) (r.tmod 8 + 1) (c.tmod 8 + 1) 0 (cutL (n.tmod 600) (r.tmod 8 + 1) (c.tmod 8 + 1)) := by
    unfold segR
    rw [if_pos ⟨hp, hq⟩, seg_eq hp hq]
  rw [e0] at c0
  have hfew := cut_few hp hq
  have hspec := cutL_spec (n.tmod 600) (r.tmod 8 + 1) (c.tmod 8 + 1)
  have hsl := segS_len (n.tmod 600) (r.tmod 8 + 1) (c.tmod 8 + 1) (cutL (n.tmod 600) (r.tmod 8 + 1) (c.tmod 8 + 1)) 0
  repeat' (conv => whnf); first
    | ((refine Or.inl ⟨by rfl, _, c0, ?_⟩))
    | ((refine Br.beq (by rfl) ?_))
    | ((refine Br.bne (by rfl) ?_))
    | ((refine And.intro (show (_ : Int) ≠ 0 by omega) ?_))
    | ((refine And.intro (show _ ≤ _ from Nat.le_of_ble_eq_true rfl) ?_))
    | (refine Br.tt ?_)
    | (refine Br.ff ?_)
    | (refine Br.dec (fun h => ?_) (fun h => ?_)) <;> try (exfalso; omega)
    | (refine Br.neg ?_)
    | (refine Br.mk (fun h => ?_) (fun h => ?_))
    | (refine And.intro rfl ?_)
    | (refine And.intro (by omega) ?_)
    | (refine ⟨_, Or.inl ⟨⟨by omega, by omega⟩, rfl⟩, ?_⟩)
    | (refine And.intro (by simp only [lens_all, sgs_len]; first | done | omega) ?_)
    | (refine And.intro (Nat.le_refl _) ?_)
    | fail
  clear c0 e0
  generalize cutL (n.tmod 600) (r.tmod 8 + 1) (c.tmod 8 + 1) = cut at *
  generalize n.tmod 600 = m at *
  generalize r.tmod 8 + 1 = p at *
  generalize c.tmod 8 + 1 = q at *
  obtain ⟨g0, g1, g2, g3⟩ := mayB_iff.1 hp
  obtain ⟨_, _, g4, g5⟩ := mayB_iff.1 hq
  obtain ⟨L, hL⟩ : ∃ L, segS m p q 0 cut = L := ⟨_, rfl⟩
  rw [hL] at hsl
  rw [hL]
  have hLl := sgs_len L
  refine ⟨Nat × Int, fun ⟨k, z⟩ => k ≤ cut.length ∧ 0 ≤ z ∧ z ≤ m ∧ L.drop k = segS m p q z (cut.drop k) ∧ (cut.drop k).Pairwise (fun x y => x < y) ∧ ∀ x, x ∈ cut.drop k ↔ isCut m p q x ∧ z < x, fun ⟨k, z⟩ => [(7, .int .i64 m), (8, .int .i64 p), (9, .int .i64 q), (10, SG L), (11, .int .i64 z), (12, .int .i64 (k : Int))], fun _ => [], fun _ => none, fun ⟨k, z⟩ => cut.length - k,
    ⟨(0, 0), ⟨Nat.zero_le _, Int.le_refl _, g0, hL.symm, hspec.1, hspec.2⟩, ⟨rfl, rfl, rfl, rfl, rfl, rfl, trivial⟩, trivial, rfl⟩, ?_⟩
  rintro ⟨k, z⟩ ⟨k1, z0, z1, hdr, hpw, hmem⟩
  by_cases hk : k < cut.length
  · obtain ⟨a, ha⟩ : ∃ a, cut[k]? = some a := ⟨_, List.getElem?_eq_getElem hk⟩
    have hd : cut.drop k = a :: cut.drop (k + 1) := by
      rw [List.drop_eq_getElem_cons hk, (List.getElem?_eq_some_iff.1 ha).2]
    rw [hd] at hdr hpw hmem
    rw [segS] at hdr
    have hpc := List.pairwise_cons.1 hpw
    obtain ⟨hca, hza⟩ := (hmem a).1 (by simp)
    have ham : a ≤ m := by
      rcases hca with ⟨i, h0, h1, rfl⟩ | ⟨i, h0, h1, rfl⟩
      · have := low_mono hp (show i + 1 ≤ p by omega); rwa [low_big hp (Int.le_refl _)] at this
      · have := low_mono hq (show i + 1 ≤ q by omega); rwa [low_big hq (Int.le_refl _)] at this
    have hno : ∀ x, isCut m p q x → z < x → a ≤ x := fun x hx hzx => by
      rcases List.mem_cons.1 ((hmem x).2 ⟨hx, hzx⟩) with rfl | h
      · exact Int.le_refl _
      · have := hpc.1 x h; omega
    have o1 : ofI m p (a - 1) = ofI m p z := of_const hp z0 (by omega) (by omega) fun i i0 i1 ⟨h1, h2⟩ => by have := hno _ (.inl ⟨i, i0, i1, rfl⟩) h1; omega
    have o2 : ofI m q (a - 1) = ofI m q z := of_const hq z0 (by omega) (by omega) fun i i0 i1 ⟨h1, h2⟩ => by have := hno _ (.inr ⟨i, i0, i1, rfl⟩) h1; omega
    have hs : L[k]? = some (z, a, ofI m p z, ofI m q z) := by
      have := congrArg (fun l => l[0]?) hdr
      simpa using this
    have hnext : L.drop (k + 1) = segS m p q a (cut.drop (k + 1)) := by
      have := congrArg (List.drop 1) hdr
      rw [List.drop_drop] at this
      simpa using this
    have c1 := fs_Of m p z
    have c2 := fs_Of m p (a - 1)
    have c3 := fs_Of m q z
    have c4 := fs_Of m q (a - 1)
    rw [o1] at c2
    rw [o2] at c4
    generalize ofI m p z = R at *
    generalize ofI m q z = C at *
    have hmem' : ∀ x, x ∈ cut.drop (k + 1) ↔ isCut m p q x ∧ a < x := fun x => by
      constructor
      · intro hx
        exact ⟨((hmem x).1 (List.mem_cons_of_mem _ hx)).1, hpc.1 x hx⟩
      · rintro ⟨hx, hax⟩
        rcases List.mem_cons.1 ((hmem x).2 ⟨hx, by omega⟩) with h | h
        · omega
        · exact h
    repeat' (conv => whnf); first
      | ((refine sgs_go4 (i := k) (by omega) hs ?_))
      | ((refine Or.inl ⟨by rfl, _, c1, ?_⟩))
      | ((refine Or.inl ⟨by rfl, _, c2, ?_⟩))
      | ((refine Or.inl ⟨by rfl, _, c3, ?_⟩))
      | ((refine Or.inl ⟨by rfl, _, c4, ?_⟩))
      | ((refine Br.beq (by rfl) ?_))
      | ((refine Br.bne (by rfl) ?_))
      | ((refine And.intro (show (_ : Int) ≠ 0 by omega) ?_))
      | ((refine And.intro (show _ ≤ _ from Nat.le_of_ble_eq_true rfl) ?_))
      | (refine Br.tt ?_)
      | (refine Br.ff ?_)
      | (refine Br.dec (fun h => ?_) (fun h => ?_)) <;> try (exfalso; omega)
      | (refine Br.neg ?_)
      | (refine Br.mk (fun h => ?_) (fun h => ?_))
      | (refine And.intro rfl ?_)
      | (refine And.intro (by omega) ?_)
      | (refine ⟨_, Or.inl ⟨⟨by omega, by omega⟩, rfl⟩, ?_⟩)
      | (refine And.intro (by simp only [lens_all, sgs_len]; first | done | omega) ?_)
      | (refine And.intro (Nat.le_refl _) ?_)
      | fail
    all_goals first
      | exact ⟨(k + 1, a), ⟨by omega, by omega, ham, hnext, hpc.2, hmem'⟩, (show cut.length - (k + 1) < cut.length - k by omega), ⟨rfl, rfl, rfl, rfl, rfl, rfl, trivial⟩, ⟨Nat.le_refl _, rfl, rfl⟩, rfl⟩
      | exact absurd rfl h
  · obtain rfl : k = cut.length := by omega
    rw [List.drop_length] at hmem
    have hzm : z = m := by
      have : ¬ z < m := fun h => by
        have := (hmem m).2 ⟨.inl ⟨p - 1, by omega, by omega, by rw [show p - 1 + 1 = p by omega]; exact low_big hp (Int.le_refl _)⟩, h⟩
        cases this
      omega
    subst hzm
    repeat' (conv => whnf); first
      | ((refine Or.inl ⟨by rfl, _, fs_live17, ?_⟩))
      | ((refine Br.beq (by rfl) ?_))
      | ((refine Br.bne (by rfl) ?_))
      | ((refine And.intro (show (_ : Int) ≠ 0 by omega) ?_))
      | ((refine And.intro (show _ ≤ _ from Nat.le_of_ble_eq_true rfl) ?_))
      | (refine Br.tt ?_)
      | (refine Br.ff ?_)
      | (refine Br.dec (fun h => ?_) (fun h => ?_)) <;> try (exfalso; omega)
      | (refine Br.neg ?_)
      | (refine Br.mk (fun h => ?_) (fun h => ?_))
      | (refine And.intro rfl ?_)
      | (refine And.intro (by omega) ?_)
      | (refine ⟨_, Or.inl ⟨⟨by omega, by omega⟩, rfl⟩, ?_⟩)
      | (refine And.intro (by simp only [lens_all, sgs_len]; first | done | omega) ?_)
      | (refine And.intro (Nat.le_refl _) ?_)
      | fail
    all_goals first
      | exact rfl
      | (show SV.bool (decide _) = SV.bool true; exact congrArg SV.bool (decide_eq_true (by omega)))
      | exact absurd rfl h
end
end Go.Proofs.Ytjaakpigkoakkaa
