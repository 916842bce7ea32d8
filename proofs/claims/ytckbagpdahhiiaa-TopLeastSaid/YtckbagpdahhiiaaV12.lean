/- Vectors of whatever items can be; one over the other. Parts of a vector, and what is better. What two vectors come to, from both sides and in any order. -/
import Derived.Test.YtckbagpdahhiiaaV11
namespace Go.Proofs.Ytckbagpdahhiiaa
section
open Go.RowKit
attribute [local irreducible] FS FO IT HS

theorem cmb_ok {K : Int} : ∀ (l E : List (Int × Int × Int)) (S : List Int), OkE K E → (∀ s ∈ S, I64 s) → (∀ x ∈ l, (x.1 = 0 ∧ 0 ≤ x.2.1 ∧ x.2.1 < K) ∧ I64 x.2.2) → OkE K (l.foldl (cStep 1) (E, S)).1 ∧ ∀ s ∈ (l.foldl (cStep 1) (E, S)).2, I64 s
  | [], E, S, h1, h2, _ => ⟨h1, h2⟩
  | x :: l, E, S, h1, h2, h3 => by
    have hx := h3 x (by simp)
    exact cmb_ok l (cStep 1 (E, S) x).1 (cStep 1 (E, S) x).2 (cStep_ok h1 hx.1) (cStep_i h2 hx.2) fun y hy => h3 y (by simp [hy])
theorem fits_i {x : Int} (h : I64 x) : fits x = true := by
  unfold I64 at h
  unfold fits
  exact decide_eq_true (by omega)
theorem nar_i (x : Int) : I64 (nar x) := by
  unfold nar fits I64
  split
  · rename_i h; have := of_decide_eq_true h; omega
  · omega
theorem nar_of {x : Int} (h : I64 x) : nar x = x := by unfold nar; rw [if_pos (fits_i h)]
theorem of_ok {K : Int} (h0 : 0 ≤ K) (h1 : K ≤ 4096) {W : List (Int × Int)} (hb : Ib W) (hi : W.all (inN K) = true) : ∃ a, ofR 1 K W = (K, a, 0) ∧ OkV K a ∧ Ib a ∧ a.length ≤ W.length := by
  have hc := cmb_ok (K := K) (W.map toE) [] [] ⟨by simp, by simp⟩ (by simp) fun x hx => by
    obtain ⟨y, hy, rfl⟩ := List.mem_map.1 hx
    have := List.all_eq_true.1 hi y hy
    unfold inN at this
    rw [Bool.and_eq_true, decide_eq_true_eq, decide_eq_true_eq] at this
    exact ⟨⟨rfl, this⟩, (hb y hy).2⟩
  have hlen := cmb_len 1 (W.map toE) [] [] rfl
  have e1 : cmbR 1 (W.map toE) = (nrE (cmb 1 (W.map toE)).1 (cmb 1 (W.map toE)).2 (cmb 1 (W.map toE)).1.length, 0) := by
    unfold cmbR
    rw [if_pos (by decide), if_pos]
    rw [List.all_eq_true]
    exact fun s hs => fits_i (hc.2 s hs)
  have hc1 : OkE K (cmb 1 (W.map toE)).1 := hc.1
  have hlen2 : (cmb 1 (W.map toE)).1.length ≤ W.length := by
    have := hlen.2
    unfold cmb
    simpa using this
  generalize (cmb 1 (W.map toE)).1 = E at *
  generalize (cmb 1 (W.map toE)).2 = S at *
  have e2 : ((nrE E S E.length).map toI).map (fun x => x.1) = E.map fun e => e.2.1 := by
    apply List.ext_getElem?
    intro i
    by_cases h : i < E.length <;> simp [nrE, toI, h]
  refine ⟨(nrE E S E.length).map toI, ?_, ⟨h0, h1, ?_, fun x hx => ?_⟩, fun x hx => ?_, by simp [nrE_len]; exact hlen2⟩
  · unfold ofR
    rw [if_pos (by decide), if_pos ⟨h0, h1⟩, if_pos hi, e1]
    rfl
  · have := hc1.2
    rw [← e2, List.pairwise_map] at this
    exact this
  · have : x.1 ∈ E.map fun e => e.2.1 := by rw [← e2]; exact List.mem_map.2 ⟨x, hx, rfl⟩
    obtain ⟨e, he, h⟩ := List.mem_map.1 this
    have := hc1.1 e he
    have h' : e.2.1 = x.1 := h
    omega
  · have : x.1 ∈ E.map fun e => e.2.1 := by rw [← e2]; exact List.mem_map.2 ⟨x, hx, rfl⟩
    obtain ⟨e, he, h⟩ := List.mem_map.1 this
    have h2 := hc1.1 e he
    have h' : e.2.1 = x.1 := h
    refine ⟨by unfold I64; omega, ?_⟩
    obtain ⟨y, hy, rfl⟩ := List.mem_map.1 hx
    unfold nrE at hy
    obtain ⟨i, hi', rfl⟩ := List.mem_map.1 hy
    show I64 (if i < E.length then nar (S.getD i 0) else _)
    rw [if_pos (List.mem_range.1 hi')]
    exact nar_i _
theorem sm_ok {n : Int} (hn : 0 ≤ n ∧ n ≤ 255) {l : List (Int × Int)} (hb : Ib l) : ∃ a, smR n l = (n.tmod 60, a, 0) ∧ OkV (n.tmod 60) a ∧ Ib a ∧ a.length ≤ 60 := by
  have hK := tmod_bd hn.1 (show (0 : Int) < 60 by omega)
  unfold smR
  split
  · rename_i h0
    have h := smO_in h0 (by omega) (l := l.take 60) fun x hx => hb x (List.mem_of_mem_take hx)
    obtain ⟨a, h1, h2, h3, h4⟩ := of_ok hK.1 (by omega) h.1 h.2
    have h5 := smO_len (n.tmod 60) (l.take 60)
    have h6 : (l.take 60).length ≤ 60 := by simp; omega
    exact ⟨a, h1, h2, h3, by omega⟩
  · obtain ⟨a, h1, h2, h3, h4⟩ := of_ok hK.1 (by omega) (W := []) (fun x hx => by cases hx) rfl
    exact ⟨a, h1, h2, h3, by simp at h4; simp [h4]⟩

/-- One over the other, as a list. -/
def ovL (K : Int) (a b : List (Int × Int)) : List (Int × Int) := tabL (fun k => ovG (gt a k) (gt b k)) K.toNat
theorem tabL_le (g : Int → Option Int) (m : Nat) : (tabL g m).length ≤ m := by
  unfold tabL
  have := List.length_filterMap_le (fun (i : Nat) => (g (i : Int)).map fun v => ((i : Int), v)) (List.range m)
  simpa using this
theorem okV_tab {K : Int} (h0 : 0 ≤ K) (h1 : K ≤ 4096) (g : Int → Option Int) : OkV K (tabL g K.toNat) := ⟨h0, h1, up_tabL _ _, fun x hx => by have := tabL_mem hx; omega⟩
theorem gt_ovL {K : Int} {a b : List (Int × Int)} (ha : OkV K a) (hb : OkV K b) (k : Int) : gt (ovL K a b) k = ovG (gt a k) (gt b k) := by
  unfold ovL
  rw [gt_tabL]
  by_cases hk : 0 ≤ k ∧ k < K
  · rw [if_pos (by have := ha.n0; omega)]
  · rw [if_neg (by have := ha.n0; omega), ha.out hk, hb.out hk]; rfl
theorem ovR_ok {K : Int} {a b : List (Int × Int)} (ha : OkV K a) (hb : OkV K b) : ovR K a K b = (K, ovL K a b, 0) := by
  unfold ovR
  rw [ha.sn, ha.sl, hb.sn, hb.sl, resM_ok fun p => rfl, ov_gt (_m := 0) ha hb]
  rfl
theorem okV_ov {K : Int} {a b : List (Int × Int)} (ha : OkV K a) (_hb : OkV K b) : OkV K (ovL K a b) := okV_tab ha.n0 ha.n1 _
theorem ib_ov {K : Int} {a b : List (Int × Int)} (ha : Ib a) (hb : Ib b) (hka : OkV K a) : Ib (ovL K a b) := fun x hx => by
  have h := tabL_mem hx
  have h1 := hka.n1
  have h2 := hka.n0
  refine ⟨by unfold I64; omega, ?_⟩
  have h3 := h.2.2
  cases hy : gt b x.1 with
  | some y => rw [hy] at h3; cases h3; exact (hb _ (gt_mem hy)).2
  | none =>
    rw [hy] at h3
    exact (ha _ (gt_mem h3)).2
theorem ov_self {K : Int} {a : List (Int × Int)} (ha : OkV K a) : ovL K a a = a := by
  refine up_ext (okV_ov ha ha).up ha.up fun k => ?_
  rw [gt_ovL ha ha]
  cases gt a k <;> rfl
theorem ov_assoc {K : Int} {a b c : List (Int × Int)} (ha : OkV K a) (hb : OkV K b) (hc : OkV K c) : ovL K (ovL K a b) c = ovL K a (ovL K b c) := by
  refine up_ext (okV_ov (okV_ov ha hb) hc).up (okV_ov ha (okV_ov hb hc)).up fun k => ?_
  rw [gt_ovL (okV_ov ha hb) hc, gt_ovL ha hb, gt_ovL ha (okV_ov hb hc), gt_ovL hb hc]
  cases gt a k <;> cases gt b k <;> cases gt c k <;> rfl
theorem fs_over {K : Int} {a b : List (Int × Int)} (ha : OkV K a) (hb : OkV K b) (la : a.length ≤ 400000000) (lb : b.length ≤ 400000000) : FS Try.prog 23 [VC K a, VC K b] (VE (K, ovL K a b, 0)) := by
  have := fs_bOver K a K b la lb
  rwa [ovR_ok ha hb] at this
theorem len_ovL {K : Int} {a b : List (Int × Int)} (ha : OkV K a) : (ovL K a b).length ≤ 4096 := by
  have h1 := ha.n1
  have := tabL_le (fun k => ovG (gt a k) (gt b k)) K.toNat
  unfold ovL
  omega

def ir_fretworklaw11_BlendOver : IR :=
(.seq
 (.reg (⟨(some 3), .bx (.t 1), none⟩ ::
   ⟨(some 4), .mv (.c (.bool false)), none⟩ ::
   []))
 (.seq
  (.reg (⟨(some 16), .mv (.t 0), none⟩ ::
    ⟨(some 17), .ld 3 true (.t 3), none⟩ ::
    ⟨(some 18), .call (.c (.fn 29 [])) [(.t 16), (.t 17)], none⟩ ::
    ⟨(some 5), .al [.int .i64 0, .nils, .int .i64 0, .nils, .int .i64 0, .nils], none⟩ ::
    ⟨none, .st 6 (.t 5) (.t 18), none⟩ ::
    []))
  (.seq
   (.reg (⟨(some 20), .iaA 3 2 (.t 5) (.c (.int .i64 0)), none⟩ ::
     ⟨(some 21), .ld 2 true (.t 20), none⟩ ::
     ⟨(some 22), .iaA 3 2 (.t 5) (.c (.int .i64 0)), none⟩ ::
     ⟨(some 23), .ld 2 true (.t 22), none⟩ ::
     ⟨(some 24), .call (.c (.fn 23 [])) [(.t 21), (.t 23)], none⟩ ::
     ⟨(some 19), .mv (.t 24), none⟩ ::
     ⟨(some 25), .ex 0 (.t 19), none⟩ ::
     ⟨(some 26), .ex 1 (.t 19), none⟩ ::
     ⟨(some 6), .al [.int .i64 0, .nils], none⟩ ::
     ⟨none, .st 2 (.t 6) (.t 25), none⟩ ::
     ⟨(some 7), .mv (.t 26), none⟩ ::
     []))
   (.seq
    (.reg (⟨(some 28), .iaA 3 2 (.t 5) (.c (.int .i64 0)), none⟩ ::
      ⟨(some 29), .ld 2 true (.t 28), none⟩ ::
      ⟨(some 30), .iaA 3 2 (.t 5) (.c (.int .i64 1)), none⟩ ::
      ⟨(some 31), .ld 2 true (.t 30), none⟩ ::
      ⟨(some 32), .call (.c (.fn 23 [])) [(.t 29), (.t 31)], none⟩ ::
      ⟨(some 27), .mv (.t 32), none⟩ ::
      ⟨(some 33), .ex 0 (.t 27), none⟩ ::
      ⟨(some 34), .ex 1 (.t 27), none⟩ ::
      ⟨(some 8), .al [.int .i64 0, .nils], none⟩ ::
      ⟨none, .st 2 (.t 8) (.t 33), none⟩ ::
      ⟨(some 9), .mv (.t 34), none⟩ ::
      []))
    (.seq
     (.reg (⟨(some 36), .iaA 3 2 (.t 5) (.c (.int .i64 1)), none⟩ ::
       ⟨(some 37), .ld 2 true (.t 36), none⟩ ::
       ⟨(some 38), .iaA 3 2 (.t 5) (.c (.int .i64 2)), none⟩ ::
       ⟨(some 39), .ld 2 true (.t 38), none⟩ ::
       ⟨(some 40), .call (.c (.fn 23 [])) [(.t 37), (.t 39)], none⟩ ::
       ⟨(some 35), .mv (.t 40), none⟩ ::
       ⟨(some 41), .ex 0 (.t 35), none⟩ ::
       ⟨(some 42), .ex 1 (.t 35), none⟩ ::
       ⟨(some 10), .al [.int .i64 0, .nils], none⟩ ::
       ⟨none, .st 2 (.t 10) (.t 41), none⟩ ::
       ⟨(some 11), .mv (.t 42), none⟩ ::
       []))
     (.seq
      (.reg (⟨(some 44), .ld 2 true (.t 8), none⟩ ::
        ⟨(some 45), .iaA 3 2 (.t 5) (.c (.int .i64 2)), none⟩ ::
        ⟨(some 46), .ld 2 true (.t 45), none⟩ ::
        ⟨(some 47), .call (.c (.fn 23 [])) [(.t 44), (.t 46)], none⟩ ::
        ⟨(some 43), .mv (.t 47), none⟩ ::
        ⟨(some 48), .ex 0 (.t 43), none⟩ ::
        ⟨(some 49), .ex 1 (.t 43), none⟩ ::
        ⟨(some 12), .al [.int .i64 0, .nils], none⟩ ::
        ⟨none, .st 2 (.t 12) (.t 48), none⟩ ::
        ⟨(some 13), .mv (.t 49), none⟩ ::
        []))
      (.seq
       (.reg (⟨(some 51), .iaA 3 2 (.t 5) (.c (.int .i64 0)), none⟩ ::
         ⟨(some 52), .ld 2 true (.t 51), none⟩ ::
         ⟨(some 53), .ld 2 true (.t 10), none⟩ ::
         ⟨(some 54), .call (.c (.fn 23 [])) [(.t 52), (.t 53)], none⟩ ::
         ⟨(some 50), .mv (.t 54), none⟩ ::
         ⟨(some 55), .ex 0 (.t 50), none⟩ ::
         ⟨(some 56), .ex 1 (.t 50), none⟩ ::
         ⟨(some 14), .al [.int .i64 0, .nils], none⟩ ::
         ⟨none, .st 2 (.t 14) (.t 55), none⟩ ::
         ⟨(some 15), .mv (.t 56), none⟩ ::
         []))
       (.seq
        (.reg (⟨(some 57), .call (.c (.fn 17 [])) [], none⟩ ::
          ⟨(some 58), .mv (.t 57), none⟩ ::
          ⟨(some 59), .mv (.t 7), some (58, true)⟩ ::
          ⟨(some 60), .bin .eql (.t 59) (.c (.int .i64 0)), some (58, true)⟩ ::
          ⟨(some 61), .pick (.t 58) (.t 60) (.c (.bool false)), none⟩ ::
          ⟨(some 62), .mv (.t 61), none⟩ ::
          ⟨(some 63), .mv (.t 9), some (62, true)⟩ ::
          ⟨(some 64), .bin .eql (.t 63) (.c (.int .i64 0)), some (62, true)⟩ ::
          ⟨(some 65), .pick (.t 62) (.t 64) (.c (.bool false)), none⟩ ::
          ⟨(some 66), .mv (.t 65), none⟩ ::
          ⟨(some 67), .mv (.t 11), some (66, true)⟩ ::
          ⟨(some 68), .bin .eql (.t 67) (.c (.int .i64 0)), some (66, true)⟩ ::
          ⟨(some 69), .pick (.t 66) (.t 68) (.c (.bool false)), none⟩ ::
          ⟨(some 70), .mv (.t 69), none⟩ ::
          ⟨(some 71), .mv (.t 13), some (70, true)⟩ ::
          ⟨(some 72), .bin .eql (.t 71) (.c (.int .i64 0)), some (70, true)⟩ ::
          ⟨(some 73), .pick (.t 70) (.t 72) (.c (.bool false)), none⟩ ::
          ⟨(some 74), .mv (.t 73), none⟩ ::
          ⟨(some 75), .mv (.t 15), some (74, true)⟩ ::
          ⟨(some 76), .bin .eql (.t 75) (.c (.int .i64 0)), some (74, true)⟩ ::
          ⟨(some 77), .pick (.t 74) (.t 76) (.c (.bool false)), none⟩ ::
          ⟨(some 78), .mv (.t 77), none⟩ ::
          ⟨(some 79), .ld 2 true (.t 6), some (78, true)⟩ ::
          ⟨(some 80), .iaA 3 2 (.t 5) (.c (.int .i64 0)), some (78, true)⟩ ::
          ⟨(some 81), .ld 2 true (.t 80), some (78, true)⟩ ::
          ⟨(some 82), .call (.c (.fn 22 [])) [(.t 79), (.t 81)], some (78, true)⟩ ::
          ⟨(some 83), .pick (.t 78) (.t 82) (.c (.bool false)), none⟩ ::
          ⟨(some 84), .mv (.t 83), none⟩ ::
          ⟨(some 85), .ld 2 true (.t 12), some (84, true)⟩ ::
          ⟨(some 86), .ld 2 true (.t 14), some (84, true)⟩ ::
          ⟨(some 87), .call (.c (.fn 22 [])) [(.t 85), (.t 86)], some (84, true)⟩ ::
          ⟨(some 88), .pick (.t 84) (.t 87) (.c (.bool false)), none⟩ ::
          ⟨(some 4), .mv (.t 88), none⟩ ::
          []))
        .ret))))))))
theorem cd_fretworklaw11_BlendOver : Code1 Try.prog 8 89 ir_fretworklaw11_BlendOver [.t 4] := ⟨Try.call8, _, _, Try.func8, rfl, by kernel_rfl, by kernel_rfl, by kernel_rfl, by kernel_rfl⟩

set_option maxHeartbeats 4000000 in
theorem fs_BlendOver (n : Int) (p q s : List (Int × Int)) (hn : 0 ≤ n ∧ n ≤ 255) (hp : Ib p) (hq : Ib q) (hs : Ib s) : FS Try.prog 8 [.int .u8 n, .agg [IL p, IL q, IL s]] (.bool true) := by
  refine fs_of_cvc mixed cd_fretworklaw11_BlendOver (by simp) ?_
  have ct := fs_Three n p q s hn hp hq hs
  obtain ⟨a, ea, ha, ia, la⟩ := sm_ok hn hp
  obtain ⟨b, eb, hb, ib, lb⟩ := sm_ok hn hq
  obtain ⟨c, ec, hc, ic, lc⟩ := sm_ok hn hs
  rw [ea, eb, ec] at ct
  generalize n.tmod 60 = K at *
  have c1 := fs_over ha ha (by omega) (by omega)
  rw [ov_self ha] at c1
  have c2 := fs_over ha hb (by omega) (by omega)
  have c3 := fs_over hb hc (by omega) (by omega)
  have l1 := len_ovL ha (b := b)
  have l2 := len_ovL hb (b := c)
  have c4 := fs_over (okV_ov ha hb) hc (by omega) (by omega)
  have c5 := fs_over ha (okV_ov hb hc) (by omega) (by omega)
  rw [← ov_assoc ha hb hc] at c5
  have l3 := len_ovL (okV_ov ha hb) (b := c)
  have s1 := fs_same9 K a (by omega)
  have s2 := fs_same9 K (ovL K (ovL K a b) c) (by omega)
  generalize ovL K (ovL K a b) c = x at *
  generalize ovL K a b = y at *
  generalize ovL K b c = z at *
  repeat' (conv => whnf); first
    | ((refine Or.inl ⟨by rfl, _, ct, ?_⟩))
    | ((refine Or.inl ⟨by rfl, _, c1, ?_⟩))
    | ((refine Or.inl ⟨by rfl, _, c2, ?_⟩))
    | ((refine Or.inl ⟨by rfl, _, c3, ?_⟩))
    | ((refine Or.inl ⟨by rfl, _, c4, ?_⟩))
    | ((refine Or.inl ⟨by rfl, _, c5, ?_⟩))
    | ((refine Or.inl ⟨by rfl, _, s1, ?_⟩))
    | ((refine Or.inl ⟨by rfl, _, s2, ?_⟩))
    | ((refine Or.inl ⟨by rfl, _, fs_live11, ?_⟩))
    | ((refine And.intro (show _ ≤ _ from Nat.le_of_ble_eq_true rfl) ?_))
    | ((refine Br.beq (by rfl) ?_))
    | ((refine Br.bne (by rfl) ?_))
    | (refine Br.tt ?_)
    | (refine Br.ff ?_)
    | (refine Br.dec (fun h => ?_) (fun h => ?_)) <;> try (exfalso; omega)
    | (refine Br.neg ?_)
    | (refine Br.mk (fun h => ?_) (fun h => ?_))
    | (refine And.intro rfl ?_)
    | (refine And.intro (by omega) ?_)
    | (refine ⟨_, Or.inl ⟨⟨by omega, by omega⟩, rfl⟩, ?_⟩)
    | (refine And.intro (by simp only [lens_all, its_len, eds_len, wds_len]; first | done | omega) ?_)
    | (refine And.intro (Nat.le_refl _) ?_)
    | fail
  exact rfl
end
section
open Go.RowKit
attribute [local irreducible] FS FO IT HS

theorem hasNv_tab {n : Nat} {g : Nat → Nat} {i : Nat} : hasN (tab n g) i = (decide (i / 64 < n) && (g (i / 64)).testBit (i % 64)) := by
  unfold hasN
  rw [List.getD_eq_getElem?_getD]
  by_cases h : i / 64 < n
  · rw [tab_get g h]; simp [h]
  · rw [List.getElem?_eq_none (by rw [tab_len]; omega)]; simp [h]
theorem hasNv_out {ws : List Nat} {i : Nat} (h : ¬ i / 64 < ws.length) : hasN ws i = false := by
  unfold hasN
  rw [List.getD_eq_getElem?_getD, List.getElem?_eq_none (by omega)]; simp
theorem hasNv_joinB (a b : List Nat) (i : Nat) : hasN (joinB a b) i = (hasN a i && hasN b i) := by
  rw [joinB, hasNv_tab, Nat.testBit_and]
  by_cases h : i / 64 < a.length
  · simp [h, hasN]
  · simp [h, hasNv_out h]
theorem hasIv_joinB (a b : List Nat) (i : Int) : hasI (joinB a b) i = (hasI a i && hasI b i) := by
  unfold hasI
  rw [hasNv_joinB]
  cases decide (0 ≤ i) <;> simp
theorem wdv_joinB {a b : List Nat} (ha : Wd a) : Wd (joinB a b) := fun x hx => by
  obtain ⟨i, _, rfl⟩ := List.mem_map.1 hx
  exact Nat.lt_of_le_of_lt Nat.and_le_left (getD_lt ha i)

theorem filt_fm (p : Int × Int → Bool) (l : List (Int × Int)) : l.filter p = l.filterMap fun x => if p x = true then some x else none := by
  rw [← List.filterMap_eq_filter]
  congr 1
theorem gt_filt {p : Int × Int → Bool} {l : List (Int × Int)} (hu : Up l) (k : Int) : gt (l.filter p) k = (gt l k).bind fun v => if p (k, v) = true then some v else none := by
  rw [filt_fm, gt_fm (fun x y h => by
    split at h
    · cases h; rfl
    · cases h) hu]
  cases gt l k with
  | none => rfl
  | some v =>
    show Option.map _ (if p (k, v) = true then some (k, v) else none) = if p (k, v) = true then some v else none
    split <;> rfl
theorem OkV.filt {K : Int} {l : List (Int × Int)} (h : OkV K l) (p : Int × Int → Bool) : OkV K (l.filter p) := ⟨h.n0, h.n1, h.up.filter p, fun x hx => h.lo x (List.mem_filter.1 hx).1⟩
theorem ib_filt {l : List (Int × Int)} (h : Ib l) (p : Int × Int → Bool) : Ib (l.filter p) := fun x hx => h x (List.mem_filter.1 hx).1
theorem OkV.len {K : Int} : ∀ {l : List (Int × Int)} {j : Int}, Up l → (∀ x ∈ l, j ≤ x.1 ∧ x.1 < K) → j ≤ K → (l.length : Int) ≤ K - j
  | [], j, _, _, hj => by simp; omega
  | x :: l, j, hu, hl, hj => by
    have h1 := hl x (by simp)
    have := OkV.len (l := l) (j := x.1 + 1) hu.tail (fun y hy => ⟨by have := hu.head y hy; omega, (hl y (by simp [hy])).2⟩) (by omega)
    simp only [List.length_cons]; omega
theorem OkV.le {K : Int} {l : List (Int × Int)} (h : OkV K l) : l.length ≤ 4096 := by
  have := OkV.len h.up h.lo h.n0
  have := h.n1
  omega

/-- Two parts. -/
theorem parts_len (p : Int × Int → Bool) : ∀ l : List (Int × Int), (l.filter p).length + (l.filter fun x => !p x).length = l.length
  | [] => rfl
  | x :: l => by
    have := parts_len p l
    cases h : p x <;> simp [h] <;> omega
theorem parts_ov {K : Int} {l : List (Int × Int)} (h : OkV K l) (p : Int × Int → Bool) : ovL K (l.filter p) (l.filter fun x => !p x) = l := by
  refine up_ext (okV_ov (h.filt p) (h.filt _)).up h.up fun k => ?_
  rw [gt_ovL (h.filt p) (h.filt _), gt_filt h.up, gt_filt h.up]
  cases gt l k with
  | none => rfl
  | some v =>
    show ovG (if p (k, v) = true then some v else none) (if (!p (k, v)) = true then some v else none) = some v
    cases p (k, v) <;> rfl
theorem rest_f (f : List Nat) (l : List (Int × Int)) : rest (fun x => hasI f x.1 == false) l = l.filter fun x => hasI f x.1 := by
  unfold rest
  congr 1
  funext x
  show (!(hasI f x.1 == _)) = _
  cases hasI f x.1 <;> rfl
theorem rest_t (f : List Nat) (l : List (Int × Int)) : rest (fun x => hasI f x.1 == true) l = l.filter fun x => !hasI f x.1 := by
  unfold rest
  congr 1
  funext x
  show (!(hasI f x.1 == _)) = _
  cases hasI f x.1 <;> rfl
theorem fs_mask {K : Int} {l : List (Int × Int)} (h : OkV K l) (hb : Ib l) {f : List Nat} (hw : Wd f) : FS Try.prog 27 [VC K l, U f, .bool false] (VC K (l.filter fun x => hasI f x.1)) := by
  have hl := h.le
  have := fs_bMask K l f false (by omega) hb hw
  rwa [h.sn, h.sl, rest_f] at this
theorem fs_maskT {K : Int} {l : List (Int × Int)} (h : OkV K l) (hb : Ib l) {f : List Nat} (hw : Wd f) : FS Try.prog 27 [VC K l, U f, .bool true] (VC K (l.filter fun x => !hasI f x.1)) := by
  have hl := h.le
  have := fs_bMask K l f true (by omega) hb hw
  rwa [h.sn, h.sl, rest_t] at this

def ir_fretworklaw11_BlendParts : IR :=
(.seq
 (.reg (⟨(some 5), .bx (.t 2), none⟩ ::
   ⟨(some 6), .mv (.c (.bool false)), none⟩ ::
   []))
 (.seq
  (.seq
   (.reg (⟨(some 13), .iaA 2 1 (.t 5) (.c (.int .i64 0)), none⟩ ::
     ⟨(some 14), .ld 1 false (.t 13), none⟩ ::
     ⟨(some 15), .ln (.t 14), none⟩ ::
     ⟨(some 16), .bin .gtr (.t 15) (.c (.int .i64 5)), none⟩ ::
     ⟨(some 17), .mv (.t 16), none⟩ ::
     ⟨(some 18), .iaA 2 1 (.t 5) (.c (.int .i64 1)), some (17, false)⟩ ::
     ⟨(some 19), .ld 1 false (.t 18), some (17, false)⟩ ::
     ⟨(some 20), .ln (.t 19), some (17, false)⟩ ::
     ⟨(some 21), .bin .gtr (.t 20) (.c (.int .i64 5)), some (17, false)⟩ ::
     ⟨(some 22), .pick (.t 17) (.c (.bool true)) (.t 21), none⟩ ::
     []))
   (.cond (.t 22)
    (.seq
     (.reg (⟨(some 23), .call (.c (.fn 17 [])) [], none⟩ ::
       ⟨(some 6), .mv (.t 23), none⟩ ::
       []))
     .ret)
    .skip))
  (.seq
   (.reg (⟨(some 24), .mv (.t 0), none⟩ ::
     ⟨(some 25), .mv (.t 1), none⟩ ::
     ⟨(some 26), .call (.c (.fn 31 [])) [(.t 24), (.t 25)], none⟩ ::
     ⟨(some 7), .al [.int .i64 0, .nils], none⟩ ::
     ⟨none, .st 2 (.t 7) (.t 26), none⟩ ::
     []))
   (.seq
    (.draw (⟨(some 27), .ld 2 true (.t 7), none⟩ ::
      ⟨(some 28), .iaA 2 1 (.t 5) (.c (.int .i64 0)), none⟩ ::
      ⟨(some 29), .ld 1 false (.t 28), none⟩ ::
      ⟨(some 30), .call (.c (.fn 27 [])) [(.t 27), (.t 29), (.c (.bool false))], none⟩ ::
      ⟨(some 31), .ld 2 true (.t 7), none⟩ ::
      ⟨(some 32), .iaA 2 1 (.t 5) (.c (.int .i64 0)), none⟩ ::
      ⟨(some 33), .ld 1 false (.t 32), none⟩ ::
      ⟨(some 34), .call (.c (.fn 27 [])) [(.t 31), (.t 33), (.c (.bool true))], none⟩ ::
      ⟨(some 8), .al [.int .i64 0, .nils], none⟩ ::
      ⟨(some 9), .al [.int .i64 0, .nils], none⟩ ::
      [])
     (⟨none, .st 2 (.t 8) (.t 30), none⟩ ::
      ⟨none, .st 2 (.t 9) (.t 34), none⟩ ::
      []))
    (.seq
     (.reg (⟨(some 36), .ld 2 true (.t 8), none⟩ ::
       ⟨(some 37), .ld 2 true (.t 9), none⟩ ::
       ⟨(some 38), .call (.c (.fn 23 [])) [(.t 36), (.t 37)], none⟩ ::
       ⟨(some 35), .mv (.t 38), none⟩ ::
       ⟨(some 39), .ex 0 (.t 35), none⟩ ::
       ⟨(some 40), .ex 1 (.t 35), none⟩ ::
       ⟨(some 10), .al [.int .i64 0, .nils], none⟩ ::
       ⟨none, .st 2 (.t 10) (.t 39), none⟩ ::
       ⟨(some 11), .mv (.t 40), none⟩ ::
       []))
     (.seq
      (.reg (⟨(some 41), .iaA 2 1 (.t 5) (.c (.int .i64 0)), none⟩ ::
        ⟨(some 42), .ld 1 false (.t 41), none⟩ ::
        ⟨(some 43), .iaA 2 1 (.t 5) (.c (.int .i64 1)), none⟩ ::
        ⟨(some 44), .ld 1 false (.t 43), none⟩ ::
        ⟨(some 45), .call (.c (.fn 32 [])) [(.t 42), (.t 44)], none⟩ ::
        ⟨(some 12), .mv (.t 45), none⟩ ::
        []))
      (.seq
       (.draw (⟨(some 46), .call (.c (.fn 17 [])) [], none⟩ ::
         ⟨(some 47), .mv (.t 46), none⟩ ::
         ⟨(some 48), .mv (.t 11), some (47, true)⟩ ::
         ⟨(some 49), .bin .eql (.t 48) (.c (.int .i64 0)), some (47, true)⟩ ::
         ⟨(some 50), .pick (.t 47) (.t 49) (.c (.bool false)), none⟩ ::
         ⟨(some 51), .mv (.t 50), none⟩ ::
         ⟨(some 52), .ld 2 true (.t 10), some (51, true)⟩ ::
         ⟨(some 53), .ld 2 true (.t 7), some (51, true)⟩ ::
         ⟨(some 54), .call (.c (.fn 22 [])) [(.t 52), (.t 53)], some (51, true)⟩ ::
         ⟨(some 55), .pick (.t 51) (.t 54) (.c (.bool false)), none⟩ ::
         ⟨(some 56), .mv (.t 55), none⟩ ::
         ⟨(some 57), .fa 1 (.t 8), some (56, true)⟩ ::
         ⟨(some 58), .ld 1 false (.t 57), some (56, true)⟩ ::
         ⟨(some 59), .ln (.t 58), some (56, true)⟩ ::
         ⟨(some 60), .fa 1 (.t 9), some (56, true)⟩ ::
         ⟨(some 61), .ld 1 false (.t 60), some (56, true)⟩ ::
         ⟨(some 62), .ln (.t 61), some (56, true)⟩ ::
         ⟨(some 63), .bin .add (.t 59) (.t 62), some (56, true)⟩ ::
         ⟨(some 64), .fa 1 (.t 7), some (56, true)⟩ ::
         ⟨(some 65), .ld 1 false (.t 64), some (56, true)⟩ ::
         ⟨(some 66), .ln (.t 65), some (56, true)⟩ ::
         ⟨(some 67), .bin .eql (.t 63) (.t 66), some (56, true)⟩ ::
         ⟨(some 68), .pick (.t 56) (.t 67) (.c (.bool false)), none⟩ ::
         ⟨(some 69), .mv (.t 68), none⟩ ::
         ⟨(some 70), .ld 2 true (.t 8), some (69, true)⟩ ::
         ⟨(some 71), .iaA 2 1 (.t 5) (.c (.int .i64 1)), some (69, true)⟩ ::
         ⟨(some 72), .ld 1 false (.t 71), some (69, true)⟩ ::
         ⟨(some 73), .call (.c (.fn 27 [])) [(.t 70), (.t 72), (.c (.bool false))], some (69, true)⟩ ::
         ⟨(some 74), .ld 2 true (.t 7), some (69, true)⟩ ::
         ⟨(some 75), .mv (.t 12), some (69, true)⟩ ::
         [])
        (⟨(some 76), .call (.c (.fn 27 [])) [(.t 74), (.t 75), (.c (.bool false))], some (69, true)⟩ ::
         ⟨(some 77), .call (.c (.fn 22 [])) [(.t 73), (.t 76)], some (69, true)⟩ ::
         ⟨(some 78), .pick (.t 69) (.t 77) (.c (.bool false)), none⟩ ::
         ⟨(some 6), .mv (.t 78), none⟩ ::
         []))
       .ret)))))))
theorem cd_fretworklaw11_BlendParts : Code1 Try.prog 6 79 ir_fretworklaw11_BlendParts [.t 6] := ⟨Try.call6, _, _, Try.func6, rfl, by kernel_rfl, by kernel_rfl, by kernel_rfl, by kernel_rfl⟩

set_option maxHeartbeats 4000000 in
theorem fs_BlendParts (n : Int) (l : List (Int × Int)) (f g : List Nat) (hn : 0 ≤ n ∧ n ≤ 255) (hb : Ib l) (hf : Wd f) (hg : Wd g) : FS Try.prog 6 [.int .u8 n, IL l, .agg [U f, U g]] (.bool true) := by
  refine fs_of_cvc mixed cd_fretworklaw11_BlendParts (by simp) ?_
  have ct := fs_Some n l hn hb
  obtain ⟨a, ea, ha, ia, la⟩ := sm_ok hn hb
  rw [ea] at ct
  generalize n.tmod 60 = K at *
  have hfl := U_len f
  have hgl := U_len g
  have c1 := fs_mask ha ia hf
  have c2 := fs_maskT ha ia hf
  have p1 := parts_len (fun x => hasI f x.1) a
  have o1 := ha.filt fun x => hasI f x.1
  have o2 := ha.filt fun x => !hasI f x.1
  have l1 := o1.le
  have l2 := o2.le
  have c3 := fs_over o1 o2 (by omega) (by omega)
  rw [parts_ov ha] at c3
  have c4 := fs_mask o1 (ib_filt ia _) hg
  have c5 := fs_mask ha ia (wdv_joinB (b := g) hf)
  have e1 : (a.filter fun x => hasI (joinB f g) x.1) = (a.filter fun x => hasI f x.1).filter fun x => hasI g x.1 := by
    rw [List.filter_filter]
    congr 1
    funext x
    rw [hasIv_joinB, Bool.and_comm]
  rw [e1] at c5
  have l3 := (o1.filt fun x => hasI g x.1).le
  have c6 : f.length ≤ 5 → g.length ≤ 5 → _ := fun h1 h2 => fs_rBoth f g hf hg (by omega) (by omega)
  have s1 := fs_same9 K a (by omega)
  have s2 := fs_same9 K _ (show ((a.filter fun x => hasI f x.1).filter fun x => hasI g x.1).length ≤ 1000000000 by omega)
  generalize (a.filter fun x => hasI f x.1).filter (fun x => hasI g x.1) = z at *
  generalize (a.filter fun x => !hasI f x.1) = y at *
  generalize (a.filter fun x => hasI f x.1) = x at *
  have ha' := its_len a
  have hx' := its_len x
  have hy' := its_len y
  repeat' (conv => whnf); first
    | ((refine Or.inl ⟨by rfl, _, ct, ?_⟩))
    | ((refine Or.inl ⟨by rfl, _, c1, ?_⟩))
    | ((refine Or.inl ⟨by rfl, _, c2, ?_⟩))
    | ((refine Or.inl ⟨by rfl, _, c3, ?_⟩))
    | ((refine Or.inl ⟨by rfl, _, c4, ?_⟩))
    | ((refine Or.inl ⟨by rfl, _, c5, ?_⟩))
    | ((refine Or.inl ⟨by rfl, _, c6 (by omega) (by omega), ?_⟩))
    | ((refine Or.inl ⟨by rfl, _, s1, ?_⟩))
    | ((refine Or.inl ⟨by rfl, _, s2, ?_⟩))
    | ((refine Or.inl ⟨by rfl, _, fs_live11, ?_⟩))
    | ((refine And.intro (show _ ≤ _ from Nat.le_of_ble_eq_true rfl) ?_))
    | ((refine Br.beq (by rfl) ?_))
    | ((refine Br.bne (by rfl) ?_))
    | (refine Br.tt ?_)
    | (refine Br.ff ?_)
    | (refine Br.dec (fun h => ?_) (fun h => ?_)) <;> try (exfalso; omega)
    | (refine Br.neg ?_)
    | (refine Br.mk (fun h => ?_) (fun h => ?_))
    | (refine And.intro rfl ?_)
    | (refine And.intro (by omega) ?_)
    | (refine ⟨_, Or.inl ⟨⟨by omega, by omega⟩, rfl⟩, ?_⟩)
    | (refine And.intro (by simp only [lens_all, its_len, eds_len, wds_len]; first | done | omega) ?_)
    | (refine And.intro (Nat.le_refl _) ?_)
    | fail
  all_goals first
    | exact rfl
    | (exfalso; exact h (show ((its x).length : Int) + ((its y).length : Int) = ((its a).length : Int) by omega))

/-- What two come to, by any ring. -/
def uL (r K : Int) (a b : List (Int × Int)) : List (Int × Int) := tabL (fun k => uV r (gt a k) (gt b k)) K.toNat
theorem gt_uL {r K : Int} {a b : List (Int × Int)} (ha : OkV K a) (hb : OkV K b) (k : Int) : gt (uL r K a b) k = uV r (gt a k) (gt b k) := by
  unfold uL
  rw [gt_tabL]
  by_cases hk : 0 ≤ k ∧ k < K
  · rw [if_pos (by have := ha.n0; omega)]
  · rw [if_neg (by have := ha.n0; omega), ha.out hk, hb.out hk]; rfl
theorem okV_uL {r K : Int} {a b : List (Int × Int)} (ha : OkV K a) : OkV K (uL r K a b) := okV_tab ha.n0 ha.n1 _
theorem unR_ok {r K : Int} {a b : List (Int × Int)} (ha : OkV K a) (hb : OkV K b) (hr : isR r = true) :
    unR r K a K b = if (List.range K.toNat).any (fun (i : Nat) => uE r (gt a (i : Int)) (gt b (i : Int))) = true then (0, [], 12) else (K, uL r K a b, 0) := by
  unfold unR
  rw [if_pos hr, ha.sn, ha.sl, hb.sn, hb.sl, un_eq ha hb]
  rfl
/-- The least of two. -/
theorem rAdd_min (x y : Int) : rAdd 1 x y = if x ≤ y then x else y := by
  unfold rAdd
  rw [if_pos (by decide)]
theorem uE_min {a b : List (Int × Int)} (ia : Ib a) (ib : Ib b) (k : Int) : uE 1 (gt a k) (gt b k) = false := by
  cases hx : gt a k with
  | none => cases gt b k <;> rfl
  | some x =>
    cases hy : gt b k with
    | none => rfl
    | some y =>
      show (!fits (rAdd 1 x y)) = false
      rw [rAdd_min, fits_i]
      · rfl
      · split
        · exact (ia _ (gt_mem hx)).2
        · exact (ib _ (gt_mem hy)).2
theorem unR_min {K : Int} {a b : List (Int × Int)} (ha : OkV K a) (hb : OkV K b) (ia : Ib a) (ib : Ib b) : unR 1 K a K b = (K, uL 1 K a b, 0) := by
  rw [unR_ok ha hb (by decide), if_neg]
  rw [any_lt.2 fun i _ => uE_min ia ib i]
  simp
theorem uV_min {x y : Int} (hx : I64 x) (hy : I64 y) : uV 1 (some x) (some y) = some (if x ≤ y then x else y) := by
  show some (nar (rAdd 1 x y)) = _
  rw [rAdd_min, nar_of]
  split <;> assumption
theorem least_over {K : Int} {a b : List (Int × Int)} (ha : OkV K a) (hb : OkV K b) (ia : Ib a) (ib : Ib b) : ovL K b (a.filter (bB b)) = uL 1 K a b := by
  refine up_ext (okV_ov hb (ha.filt _)).up (okV_uL ha).up fun k => ?_
  rw [gt_ovL hb (ha.filt _), gt_filt ha.up, gt_uL ha hb]
  cases hx : gt a k with
  | none => cases gt b k <;> rfl
  | some x =>
    cases hy : gt b k with
    | none =>
      show ovG none (if bB b (k, x) = true then some x else none) = some x
      rw [if_pos (by unfold bB; rw [hy])]; rfl
    | some y =>
      show ovG (some y) (if bB b (k, x) = true then some x else none) = _
      rw [uV_min (ia _ (gt_mem hx)).2 (ib _ (gt_mem hy)).2]
      have hbb : bB b (k, x) = decide (x < y) := by unfold bB; rw [hy]
      rw [hbb]
      by_cases h : x < y
      · rw [if_pos (decide_eq_true h), if_pos (by omega)]; rfl
      · rw [if_neg (by simp; omega)]
        by_cases h2 : x ≤ y
        · rw [if_pos h2]; show some y = some x; congr 1; omega
        · rw [if_neg h2]; rfl
theorem least_none {K : Int} {a m : List (Int × Int)} (_ha : OkV K a) (h : ∀ x ∈ a, ∃ y, gt m x.1 = some y ∧ y ≤ x.2) : a.filter (bB m) = [] := by
  rw [List.filter_eq_nil_iff]
  intro x hx
  obtain ⟨y, h1, h2⟩ := h x hx
  unfold bB
  rw [h1]
  simp; omega
theorem fs_better {K : Int} {a b : List (Int × Int)} (ha : OkV K a) (hb : OkV K b) : FS Try.prog 25 [VC K a, VC K b] (VE (K, a.filter (bB b), 0)) := by
  have l1 := ha.le
  have l2 := hb.le
  have := fs_bBetter K a K b (by omega) (by omega)
  unfold beR at this
  rwa [ha.sn, ha.sl, hb.sn, hb.sl, be_eq ha hb] at this

def ir_fretworklaw11_BlendLeast : IR :=
(.seq
 (.reg (⟨(some 3), .bx (.t 1), none⟩ ::
   ⟨(some 4), .mv (.c (.bool false)), none⟩ ::
   []))
 (.seq
  (.draw (⟨(some 17), .mv (.t 0), none⟩ ::
    ⟨(some 18), .iaA 2 1 (.t 3) (.c (.int .i64 0)), none⟩ ::
    ⟨(some 19), .ld 1 false (.t 18), none⟩ ::
    ⟨(some 20), .call (.c (.fn 31 [])) [(.t 17), (.t 19)], none⟩ ::
    ⟨(some 21), .mv (.t 0), none⟩ ::
    ⟨(some 22), .iaA 2 1 (.t 3) (.c (.int .i64 1)), none⟩ ::
    ⟨(some 23), .ld 1 false (.t 22), none⟩ ::
    ⟨(some 24), .call (.c (.fn 31 [])) [(.t 21), (.t 23)], none⟩ ::
    ⟨(some 5), .al [.int .i64 0, .nils], none⟩ ::
    ⟨(some 6), .al [.int .i64 0, .nils], none⟩ ::
    [])
   (⟨none, .st 2 (.t 5) (.t 20), none⟩ ::
    ⟨none, .st 2 (.t 6) (.t 24), none⟩ ::
    []))
  (.seq
   (.reg (⟨(some 26), .ld 2 true (.t 5), none⟩ ::
     ⟨(some 27), .ld 2 true (.t 6), none⟩ ::
     ⟨(some 28), .call (.c (.fn 25 [])) [(.t 26), (.t 27)], none⟩ ::
     ⟨(some 25), .mv (.t 28), none⟩ ::
     ⟨(some 29), .ex 0 (.t 25), none⟩ ::
     ⟨(some 30), .ex 1 (.t 25), none⟩ ::
     ⟨(some 7), .al [.int .i64 0, .nils], none⟩ ::
     ⟨none, .st 2 (.t 7) (.t 29), none⟩ ::
     ⟨(some 8), .mv (.t 30), none⟩ ::
     []))
   (.seq
    (.reg (⟨(some 32), .ld 2 true (.t 5), none⟩ ::
      ⟨(some 33), .ld 2 true (.t 6), none⟩ ::
      ⟨(some 34), .call (.c (.fn 18 [])) [(.c (.int .i64 1)), (.t 32), (.t 33)], none⟩ ::
      ⟨(some 31), .mv (.t 34), none⟩ ::
      ⟨(some 35), .ex 0 (.t 31), none⟩ ::
      ⟨(some 36), .ex 1 (.t 31), none⟩ ::
      ⟨(some 9), .al [.int .i64 0, .nils], none⟩ ::
      ⟨none, .st 2 (.t 9) (.t 35), none⟩ ::
      ⟨(some 10), .mv (.t 36), none⟩ ::
      []))
    (.seq
     (.reg (⟨(some 38), .ld 2 true (.t 6), none⟩ ::
       ⟨(some 39), .ld 2 true (.t 7), none⟩ ::
       ⟨(some 40), .call (.c (.fn 23 [])) [(.t 38), (.t 39)], none⟩ ::
       ⟨(some 37), .mv (.t 40), none⟩ ::
       ⟨(some 41), .ex 0 (.t 37), none⟩ ::
       ⟨(some 42), .ex 1 (.t 37), none⟩ ::
       ⟨(some 11), .al [.int .i64 0, .nils], none⟩ ::
       ⟨none, .st 2 (.t 11) (.t 41), none⟩ ::
       ⟨(some 12), .mv (.t 42), none⟩ ::
       []))
     (.seq
      (.reg (⟨(some 44), .ld 2 true (.t 6), none⟩ ::
        ⟨(some 45), .ld 2 true (.t 6), none⟩ ::
        ⟨(some 46), .call (.c (.fn 25 [])) [(.t 44), (.t 45)], none⟩ ::
        ⟨(some 43), .mv (.t 46), none⟩ ::
        ⟨(some 47), .ex 0 (.t 43), none⟩ ::
        ⟨(some 48), .ex 1 (.t 43), none⟩ ::
        ⟨(some 13), .al [.int .i64 0, .nils], none⟩ ::
        ⟨none, .st 2 (.t 13) (.t 47), none⟩ ::
        ⟨(some 14), .mv (.t 48), none⟩ ::
        []))
      (.seq
       (.reg (⟨(some 50), .ld 2 true (.t 5), none⟩ ::
         ⟨(some 51), .ld 2 true (.t 9), none⟩ ::
         ⟨(some 52), .call (.c (.fn 25 [])) [(.t 50), (.t 51)], none⟩ ::
         ⟨(some 49), .mv (.t 52), none⟩ ::
         ⟨(some 53), .ex 0 (.t 49), none⟩ ::
         ⟨(some 54), .ex 1 (.t 49), none⟩ ::
         ⟨(some 15), .al [.int .i64 0, .nils], none⟩ ::
         ⟨none, .st 2 (.t 15) (.t 53), none⟩ ::
         ⟨(some 16), .mv (.t 54), none⟩ ::
         []))
       (.seq
        (.reg (⟨(some 55), .call (.c (.fn 17 [])) [], none⟩ ::
          ⟨(some 56), .mv (.t 55), none⟩ ::
          ⟨(some 57), .mv (.t 8), some (56, true)⟩ ::
          ⟨(some 58), .bin .eql (.t 57) (.c (.int .i64 0)), some (56, true)⟩ ::
          ⟨(some 59), .pick (.t 56) (.t 58) (.c (.bool false)), none⟩ ::
          ⟨(some 60), .mv (.t 59), none⟩ ::
          ⟨(some 61), .mv (.t 10), some (60, true)⟩ ::
          ⟨(some 62), .bin .eql (.t 61) (.c (.int .i64 0)), some (60, true)⟩ ::
          ⟨(some 63), .pick (.t 60) (.t 62) (.c (.bool false)), none⟩ ::
          ⟨(some 64), .mv (.t 63), none⟩ ::
          ⟨(some 65), .mv (.t 12), some (64, true)⟩ ::
          ⟨(some 66), .bin .eql (.t 65) (.c (.int .i64 0)), some (64, true)⟩ ::
          ⟨(some 67), .pick (.t 64) (.t 66) (.c (.bool false)), none⟩ ::
          ⟨(some 68), .mv (.t 67), none⟩ ::
          ⟨(some 69), .mv (.t 14), some (68, true)⟩ ::
          ⟨(some 70), .bin .eql (.t 69) (.c (.int .i64 0)), some (68, true)⟩ ::
          ⟨(some 71), .pick (.t 68) (.t 70) (.c (.bool false)), none⟩ ::
          ⟨(some 72), .mv (.t 71), none⟩ ::
          ⟨(some 73), .mv (.t 16), some (72, true)⟩ ::
          ⟨(some 74), .bin .eql (.t 73) (.c (.int .i64 0)), some (72, true)⟩ ::
          ⟨(some 75), .pick (.t 72) (.t 74) (.c (.bool false)), none⟩ ::
          ⟨(some 76), .mv (.t 75), none⟩ ::
          ⟨(some 77), .ld 2 true (.t 11), some (76, true)⟩ ::
          ⟨(some 78), .ld 2 true (.t 9), some (76, true)⟩ ::
          ⟨(some 79), .call (.c (.fn 22 [])) [(.t 77), (.t 78)], some (76, true)⟩ ::
          ⟨(some 80), .pick (.t 76) (.t 79) (.c (.bool false)), none⟩ ::
          ⟨(some 81), .mv (.t 80), none⟩ ::
          ⟨(some 82), .fa 1 (.t 13), some (81, true)⟩ ::
          ⟨(some 83), .ld 1 false (.t 82), some (81, true)⟩ ::
          ⟨(some 84), .ln (.t 83), some (81, true)⟩ ::
          ⟨(some 85), .bin .eql (.t 84) (.c (.int .i64 0)), some (81, true)⟩ ::
          ⟨(some 86), .pick (.t 81) (.t 85) (.c (.bool false)), none⟩ ::
          ⟨(some 87), .mv (.t 86), none⟩ ::
          ⟨(some 88), .fa 1 (.t 15), some (87, true)⟩ ::
          ⟨(some 89), .ld 1 false (.t 88), some (87, true)⟩ ::
          ⟨(some 90), .ln (.t 89), some (87, true)⟩ ::
          ⟨(some 91), .bin .eql (.t 90) (.c (.int .i64 0)), some (87, true)⟩ ::
          ⟨(some 92), .pick (.t 87) (.t 91) (.c (.bool false)), none⟩ ::
          ⟨(some 4), .mv (.t 92), none⟩ ::
          []))
        .ret))))))))
theorem cd_fretworklaw11_BlendLeast : Code1 Try.prog 7 93 ir_fretworklaw11_BlendLeast [.t 4] := ⟨Try.call7, _, _, Try.func7, rfl, by kernel_rfl, by kernel_rfl, by kernel_rfl, by kernel_rfl⟩

set_option maxHeartbeats 4000000 in
theorem fs_BlendLeast (n : Int) (p q : List (Int × Int)) (hn : 0 ≤ n ∧ n ≤ 255) (hp : Ib p) (hq : Ib q) : FS Try.prog 7 [.int .u8 n, .agg [IL p, IL q]] (.bool true) := by
  refine fs_of_cvc mixed cd_fretworklaw11_BlendLeast (by simp) ?_
  have ct1 := fs_Some n p hn hp
  have ct2 := fs_Some n q hn hq
  obtain ⟨a, ea, ha, ia, la⟩ := sm_ok hn hp
  obtain ⟨b, eb, hb, ib, lb⟩ := sm_ok hn hq
  rw [ea] at ct1
  rw [eb] at ct2
  generalize n.tmod 60 = K at *
  have c1 := fs_better ha hb
  have hx := ha.filt (bB b)
  have lx := hx.le
  have c2 := fs_bUnion 1 K a K b (by omega) (by omega) ia ib
  rw [unR_min ha hb ia ib] at c2
  have hu := okV_uL (r := 1) (b := b) ha
  have lu := hu.le
  have c3 := fs_over hb hx (by omega) (by omega)
  rw [least_over ha hb ia ib] at c3
  have c4 := fs_better hb hb
  rw [least_none hb fun x hx => ⟨x.2, gt_some hb.up hx, Int.le_refl _⟩] at c4
  have c5 := fs_better ha hu
  rw [least_none ha fun x hx => by
    rw [gt_uL ha hb, gt_some ha.up hx]
    cases hy : gt b x.1 with
    | none => exact ⟨x.2, rfl, Int.le_refl _⟩
    | some y =>
      rw [uV_min (ia _ hx).2 (ib _ (gt_mem hy)).2]
      exact ⟨_, rfl, by split <;> omega⟩] at c5
  have s1 := fs_same9 K (uL 1 K a b) (by omega)
  generalize uL 1 K a b = u at *
  generalize a.filter (bB b) = x at *
  repeat' (conv => whnf); first
    | ((refine Or.inl ⟨by rfl, _, ct1, ?_⟩))
    | ((refine Or.inl ⟨by rfl, _, ct2, ?_⟩))
    | ((refine Or.inl ⟨by rfl, _, c1, ?_⟩))
    | ((refine Or.inl ⟨by rfl, _, c2, ?_⟩))
    | ((refine Or.inl ⟨by rfl, _, c3, ?_⟩))
    | ((refine Or.inl ⟨by rfl, _, c4, ?_⟩))
    | ((refine Or.inl ⟨by rfl, _, c5, ?_⟩))
    | ((refine Or.inl ⟨by rfl, _, s1, ?_⟩))
    | ((refine Or.inl ⟨by rfl, _, fs_live11, ?_⟩))
    | ((refine And.intro (show _ ≤ _ from Nat.le_of_ble_eq_true rfl) ?_))
    | ((refine Br.beq (by rfl) ?_))
    | ((refine Br.bne (by rfl) ?_))
    | (refine Br.tt ?_)
    | (refine Br.ff ?_)
    | (refine Br.dec (fun h => ?_) (fun h => ?_)) <;> try (exfalso; omega)
    | (refine Br.neg ?_)
    | (refine Br.mk (fun h => ?_) (fun h => ?_))
    | (refine And.intro rfl ?_)
    | (refine And.intro (by omega) ?_)
    | (refine ⟨_, Or.inl ⟨⟨by omega, by omega⟩, rfl⟩, ?_⟩)
    | (refine And.intro (by simp only [lens_all, its_len, eds_len, wds_len]; first | done | omega) ?_)
    | (refine And.intro (Nat.le_refl _) ?_)
    | fail
  all_goals exact rfl
end
section
open Go.RowKit
attribute [local irreducible] FS FO IT HS

theorem rAdd_comm (r x y : Int) : rAdd r x y = rAdd r y x := by
  unfold rAdd
  split
  · split <;> split <;> omega
  · split
    · rw [Bool.or_comm]
    · split
      · rw [Int.add_comm]
      · rfl
theorem uV_comm (r : Int) (x y : Option Int) : uV r x y = uV r y x := by
  cases x <;> cases y <;> try rfl
  show some (nar _) = some (nar _)
  rw [rAdd_comm]
theorem uE_comm (r : Int) (x y : Option Int) : uE r x y = uE r y x := by
  cases x <;> cases y <;> try rfl
  show (!fits _) = (!fits _)
  rw [rAdd_comm]
theorem unR_comm {r K : Int} {a b : List (Int × Int)} (ha : OkV K a) (hb : OkV K b) (hr : isR r = true) : unR r K a K b = unR r K b K a := by
  rw [unR_ok ha hb hr, unR_ok hb ha hr]
  unfold uL
  have e1 : (fun (i : Nat) => uE r (gt a (i : Int)) (gt b (i : Int))) = fun (i : Nat) => uE r (gt b (i : Int)) (gt a (i : Int)) := funext fun i => uE_comm _ _ _
  have e2 : (fun k => uV r (gt a k) (gt b k)) = fun k => uV r (gt b k) (gt a k) := funext fun k => uV_comm _ _ _
  rw [e1, e2]
theorem rAdd_lt3 {r : Int} (h : lt3 r = true) (x y : Int) : rAdd r x y = if x ≤ y then x else y := by
  unfold rAdd
  rw [if_pos h]
theorem rAdd_5 {x y : Int} (hx : I64 x) (hy : I64 y) : rAdd 5 x y = x + y := by
  unfold rAdd
  rw [if_neg (by decide), if_neg (by decide), if_pos rfl, norm_id]
  unfold I64 at hx hy
  unfold W128
  omega
theorem i_of_fits {x : Int} (h : fits x = true) : I64 x := by
  unfold fits at h
  have := of_decide_eq_true h
  unfold I64; omega
theorem isR_cases {r : Int} (hr : isR r = true) (h2 : r ≠ 2) : lt3 r = true ∨ r = 5 := by
  unfold isR at hr
  rw [Bool.and_eq_true, decide_eq_true_eq, decide_eq_true_eq] at hr
  have : r = 1 ∨ r = 3 ∨ r = 4 ∨ r = 5 := by omega
  rcases this with h | h | h | h <;> subst h <;> first | (left; decide) | (right; rfl)
theorem uV_assoc {r : Int} (hr : isR r = true) (h2 : r ≠ 2) {x y z : Option Int} (hx : ∀ v, x = some v → I64 v) (hy : ∀ v, y = some v → I64 v) (hz : ∀ v, z = some v → I64 v)
    (e1 : uE r x y = false) (e2 : uE r y z = false) (e3 : uE r (uV r x y) z = false) (e4 : uE r x (uV r y z) = false) : uV r (uV r x y) z = uV r x (uV r y z) := by
  cases x with
  | none => cases y <;> cases z <;> rfl
  | some x =>
    cases y with
    | none => cases z <;> rfl
    | some y =>
      cases z with
      | none => rfl
      | some z =>
        have hx := hx x rfl
        have hy := hy y rfl
        have hz := hz z rfl
        have f1 : fits (rAdd r x y) = true := by
          have : (!fits (rAdd r x y)) = false := e1
          simpa using this
        have f2 : fits (rAdd r y z) = true := by
          have : (!fits (rAdd r y z)) = false := e2
          simpa using this
        have i1 := i_of_fits f1
        have i2 := i_of_fits f2
        have f3 : fits (rAdd r (rAdd r x y) z) = true := by
          have : (!fits (rAdd r (nar (rAdd r x y)) z)) = false := e3
          rw [nar_of i1] at this
          simpa using this
        have f4 : fits (rAdd r x (rAdd r y z)) = true := by
          have : (!fits (rAdd r x (nar (rAdd r y z)))) = false := e4
          rw [nar_of i2] at this
          simpa using this
        show some (nar (rAdd r (nar (rAdd r x y)) z)) = some (nar (rAdd r x (nar (rAdd r y z))))
        rw [nar_of i1, nar_of i2, nar_of (i_of_fits f3), nar_of (i_of_fits f4)]
        congr 1
        rcases isR_cases hr h2 with h | rfl
        · rw [rAdd_lt3 h, rAdd_lt3 h, rAdd_lt3 h, rAdd_lt3 h]
          simp only [← Int.min_def]
          omega
        · rw [rAdd_5 hx hy] at i1 ⊢
          rw [rAdd_5 hy hz] at i2 ⊢
          rw [rAdd_5 i1 hz, rAdd_5 hx i2]
          omega
theorem ib_uL {r K : Int} {a b : List (Int × Int)} (ha : OkV K a) (ia : Ib a) (ib : Ib b) : Ib (uL r K a b) := fun x hx => by
  have h := tabL_mem hx
  have h1 := ha.n1
  have h2 := ha.n0
  refine ⟨by unfold I64; omega, ?_⟩
  have h3 := h.2.2
  cases hy : gt b x.1 with
  | none =>
    cases hz : gt a x.1 with
    | none => rw [hy, hz] at h3; cases h3
    | some z => rw [hy, hz] at h3; cases h3; exact (ia _ (gt_mem hz)).2
  | some y =>
    cases hz : gt a x.1 with
    | none => rw [hy, hz] at h3; cases h3; exact (ib _ (gt_mem hy)).2
    | some z =>
      rw [hy, hz] at h3
      have h4 : some (nar (rAdd r z y)) = some x.2 := h3
      have h5 : nar (rAdd r z y) = x.2 := Option.some.inj h4
      rw [← h5]
      exact nar_i _
theorem unR_ib {r K : Int} {a b : List (Int × Int)} (ha : OkV K a) (hb : OkV K b) (ia : Ib a) (ib : Ib b) (hr : isR r = true) : Ib (unR r K a K b).2.1 ∧ (unR r K a K b).2.1.length ≤ 4096 := by
  rw [unR_ok ha hb hr]
  split
  · exact ⟨(fun x hx => by cases hx), (by simp)⟩
  · exact ⟨ib_uL ha ia ib, (okV_uL (r := r) (b := b) ha).le⟩
theorem unR_fine {r K : Int} {a b : List (Int × Int)} (ha : OkV K a) (hb : OkV K b) (hr : isR r = true) (h : (unR r K a K b).2.2 = 0) : unR r K a K b = (K, uL r K a b, 0) ∧ ∀ k, uE r (gt a k) (gt b k) = false := by
  rw [unR_ok ha hb hr] at h ⊢
  split at h
  · cases h
  · rename_i hany
    rw [if_neg hany]
    refine ⟨rfl, fun k => ?_⟩
    rw [Bool.not_eq_true, any_lt] at hany
    by_cases hk : 0 ≤ k ∧ k < K
    · have := hany k.toNat (by omega)
      rwa [show ((k.toNat : Nat) : Int) = k by omega] at this
    · rw [ha.out hk, hb.out hk]; rfl
theorem un_self {K : Int} {a : List (Int × Int)} (ha : OkV K a) (ia : Ib a) : uL 1 K a a = a := by
  refine up_ext (okV_uL ha).up ha.up fun k => ?_
  rw [gt_uL ha ha]
  cases hx : gt a k with
  | none => rfl
  | some x => rw [uV_min (ia _ (gt_mem hx)).2 (ia _ (gt_mem hx)).2, if_pos (Int.le_refl _)]
theorem un_assoc {r K : Int} {a b c : List (Int × Int)} (ha : OkV K a) (hb : OkV K b) (hc : OkV K c) (ia : Ib a) (ib : Ib b) (ic : Ib c) (hr : isR r = true) (h2 : r ≠ 2)
    (e1 : (unR r K a K b).2.2 = 0) (e2 : (unR r K b K c).2.2 = 0) (e3 : (unR r (unR r K a K b).1 (unR r K a K b).2.1 K c).2.2 = 0) (e4 : (unR r K a (unR r K b K c).1 (unR r K b K c).2.1).2.2 = 0) :
    unR r (unR r K a K b).1 (unR r K a K b).2.1 K c = unR r K a (unR r K b K c).1 (unR r K b K c).2.1 := by
  obtain ⟨h1, g1⟩ := unR_fine ha hb hr e1
  obtain ⟨h3, g2⟩ := unR_fine hb hc hr e2
  rw [h1] at e3 ⊢
  rw [h3] at e4 ⊢
  have hu := okV_uL (r := r) (b := b) ha
  have hv := okV_uL (r := r) (b := c) hb
  obtain ⟨h5, g3⟩ := unR_fine hu hc hr e3
  obtain ⟨h6, g4⟩ := unR_fine ha hv hr e4
  show unR r K (uL r K a b) K c = unR r K a K (uL r K b c)
  rw [h5, h6]
  congr 2
  refine up_ext (okV_uL hu).up (okV_uL ha).up fun k => ?_
  have k3 := g3 k
  have k4 := g4 k
  rw [gt_uL ha hb] at k3
  rw [gt_uL hb hc] at k4
  rw [gt_uL hu hc, gt_uL ha hb, gt_uL ha hv, gt_uL hb hc]
  exact uV_assoc hr h2 (fun v hv => (ia _ (gt_mem hv)).2) (fun v hv => (ib _ (gt_mem hv)).2) (fun v hv => (ic _ (gt_mem hv)).2) (g1 k) (g2 k) k3 k4

def ir_fretworklaw11_BlendUnion : IR :=
(.seq
 (.reg (⟨(some 5), .bx (.t 2), none⟩ ::
   ⟨(some 6), .mv (.c (.bool false)), none⟩ ::
   []))
 (.seq
  (.reg (⟨(some 20), .mv (.t 1), none⟩ ::
    ⟨(some 21), .ld 3 true (.t 5), none⟩ ::
    ⟨(some 22), .call (.c (.fn 29 [])) [(.t 20), (.t 21)], none⟩ ::
    ⟨(some 7), .al [.int .i64 0, .nils, .int .i64 0, .nils, .int .i64 0, .nils], none⟩ ::
    ⟨none, .st 6 (.t 7) (.t 22), none⟩ ::
    []))
  (.seq
   (.seq
    (.reg (⟨(some 23), .mv (.t 0), none⟩ ::
      ⟨(some 24), .call (.c (.fn 30 [])) [(.t 23)], none⟩ ::
      ⟨(some 25), .un .not (.t 24), none⟩ ::
      []))
    (.cond (.t 25)
     (.seq
      (.reg (⟨(some 26), .call (.c (.fn 17 [])) [], none⟩ ::
        ⟨(some 6), .mv (.t 26), none⟩ ::
        []))
      .ret)
     .skip))
   (.seq
    (.reg (⟨(some 28), .mv (.t 0), none⟩ ::
      ⟨(some 29), .iaA 3 2 (.t 7) (.c (.int .i64 0)), none⟩ ::
      ⟨(some 30), .ld 2 true (.t 29), none⟩ ::
      ⟨(some 31), .iaA 3 2 (.t 7) (.c (.int .i64 1)), none⟩ ::
      ⟨(some 32), .ld 2 true (.t 31), none⟩ ::
      ⟨(some 33), .call (.c (.fn 18 [])) [(.t 28), (.t 30), (.t 32)], none⟩ ::
      ⟨(some 27), .mv (.t 33), none⟩ ::
      ⟨(some 34), .ex 0 (.t 27), none⟩ ::
      ⟨(some 35), .ex 1 (.t 27), none⟩ ::
      ⟨(some 8), .al [.int .i64 0, .nils], none⟩ ::
      ⟨none, .st 2 (.t 8) (.t 34), none⟩ ::
      ⟨(some 9), .mv (.t 35), none⟩ ::
      []))
    (.seq
     (.reg (⟨(some 37), .mv (.t 0), none⟩ ::
       ⟨(some 38), .iaA 3 2 (.t 7) (.c (.int .i64 1)), none⟩ ::
       ⟨(some 39), .ld 2 true (.t 38), none⟩ ::
       ⟨(some 40), .iaA 3 2 (.t 7) (.c (.int .i64 0)), none⟩ ::
       ⟨(some 41), .ld 2 true (.t 40), none⟩ ::
       ⟨(some 42), .call (.c (.fn 18 [])) [(.t 37), (.t 39), (.t 41)], none⟩ ::
       ⟨(some 36), .mv (.t 42), none⟩ ::
       ⟨(some 43), .ex 0 (.t 36), none⟩ ::
       ⟨(some 44), .ex 1 (.t 36), none⟩ ::
       ⟨(some 10), .al [.int .i64 0, .nils], none⟩ ::
       ⟨none, .st 2 (.t 10) (.t 43), none⟩ ::
       ⟨(some 11), .mv (.t 44), none⟩ ::
       []))
     (.seq
      (.seq
       (.reg (⟨(some 45), .call (.c (.fn 17 [])) [], none⟩ ::
         ⟨(some 46), .un .not (.t 45), none⟩ ::
         ⟨(some 47), .mv (.t 46), none⟩ ::
         ⟨(some 48), .mv (.t 9), some (47, false)⟩ ::
         ⟨(some 49), .mv (.t 11), some (47, false)⟩ ::
         ⟨(some 50), .bin .neq (.t 48) (.t 49), some (47, false)⟩ ::
         ⟨(some 51), .pick (.t 47) (.c (.bool true)) (.t 50), none⟩ ::
         ⟨(some 52), .mv (.t 51), none⟩ ::
         ⟨(some 53), .ld 2 true (.t 8), some (52, false)⟩ ::
         ⟨(some 54), .ld 2 true (.t 10), some (52, false)⟩ ::
         ⟨(some 55), .call (.c (.fn 22 [])) [(.t 53), (.t 54)], some (52, false)⟩ ::
         ⟨(some 56), .un .not (.t 55), some (52, false)⟩ ::
         ⟨(some 57), .pick (.t 52) (.c (.bool true)) (.t 56), none⟩ ::
         []))
       (.cond (.t 57)
        (.seq
         (.reg (⟨(some 6), .mv (.c (.bool false)), none⟩ ::
           []))
         .ret)
        .skip))
      (.seq
       (.reg (⟨(some 59), .mv (.t 0), none⟩ ::
         ⟨(some 60), .iaA 3 2 (.t 7) (.c (.int .i64 1)), none⟩ ::
         ⟨(some 61), .ld 2 true (.t 60), none⟩ ::
         ⟨(some 62), .iaA 3 2 (.t 7) (.c (.int .i64 2)), none⟩ ::
         ⟨(some 63), .ld 2 true (.t 62), none⟩ ::
         ⟨(some 64), .call (.c (.fn 18 [])) [(.t 59), (.t 61), (.t 63)], none⟩ ::
         ⟨(some 58), .mv (.t 64), none⟩ ::
         ⟨(some 65), .ex 0 (.t 58), none⟩ ::
         ⟨(some 66), .ex 1 (.t 58), none⟩ ::
         ⟨(some 12), .al [.int .i64 0, .nils], none⟩ ::
         ⟨none, .st 2 (.t 12) (.t 65), none⟩ ::
         ⟨(some 13), .mv (.t 66), none⟩ ::
         []))
       (.seq
        (.reg (⟨(some 68), .mv (.t 0), none⟩ ::
          ⟨(some 69), .ld 2 true (.t 8), none⟩ ::
          ⟨(some 70), .iaA 3 2 (.t 7) (.c (.int .i64 2)), none⟩ ::
          ⟨(some 71), .ld 2 true (.t 70), none⟩ ::
          ⟨(some 72), .call (.c (.fn 18 [])) [(.t 68), (.t 69), (.t 71)], none⟩ ::
          ⟨(some 67), .mv (.t 72), none⟩ ::
          ⟨(some 73), .ex 0 (.t 67), none⟩ ::
          ⟨(some 74), .ex 1 (.t 67), none⟩ ::
          ⟨(some 14), .al [.int .i64 0, .nils], none⟩ ::
          ⟨none, .st 2 (.t 14) (.t 73), none⟩ ::
          ⟨(some 15), .mv (.t 74), none⟩ ::
          []))
        (.seq
         (.reg (⟨(some 76), .mv (.t 0), none⟩ ::
           ⟨(some 77), .iaA 3 2 (.t 7) (.c (.int .i64 0)), none⟩ ::
           ⟨(some 78), .ld 2 true (.t 77), none⟩ ::
           ⟨(some 79), .ld 2 true (.t 12), none⟩ ::
           ⟨(some 80), .call (.c (.fn 18 [])) [(.t 76), (.t 78), (.t 79)], none⟩ ::
           ⟨(some 75), .mv (.t 80), none⟩ ::
           ⟨(some 81), .ex 0 (.t 75), none⟩ ::
           ⟨(some 82), .ex 1 (.t 75), none⟩ ::
           ⟨(some 16), .al [.int .i64 0, .nils], none⟩ ::
           ⟨none, .st 2 (.t 16) (.t 81), none⟩ ::
           ⟨(some 17), .mv (.t 82), none⟩ ::
           []))
         (.seq
          (.reg (⟨(some 84), .iaA 3 2 (.t 7) (.c (.int .i64 0)), none⟩ ::
            ⟨(some 85), .ld 2 true (.t 84), none⟩ ::
            ⟨(some 86), .iaA 3 2 (.t 7) (.c (.int .i64 0)), none⟩ ::
            ⟨(some 87), .ld 2 true (.t 86), none⟩ ::
            ⟨(some 88), .call (.c (.fn 18 [])) [(.c (.int .i64 1)), (.t 85), (.t 87)], none⟩ ::
            ⟨(some 83), .mv (.t 88), none⟩ ::
            ⟨(some 89), .ex 0 (.t 83), none⟩ ::
            ⟨(some 90), .ex 1 (.t 83), none⟩ ::
            ⟨(some 18), .al [.int .i64 0, .nils], none⟩ ::
            ⟨none, .st 2 (.t 18) (.t 89), none⟩ ::
            ⟨(some 19), .mv (.t 90), none⟩ ::
            []))
          (.seq
           (.reg (⟨(some 91), .ld 2 true (.t 18), none⟩ ::
             ⟨(some 92), .iaA 3 2 (.t 7) (.c (.int .i64 0)), none⟩ ::
             ⟨(some 93), .ld 2 true (.t 92), none⟩ ::
             ⟨(some 94), .call (.c (.fn 22 [])) [(.t 91), (.t 93)], none⟩ ::
             ⟨(some 95), .mv (.t 94), none⟩ ::
             ⟨(some 96), .mv (.t 9), some (95, true)⟩ ::
             ⟨(some 97), .bin .neq (.t 96) (.c (.int .i64 0)), some (95, true)⟩ ::
             ⟨(some 98), .mv (.t 97), some (95, true)⟩ ::
             ⟨(some 99), .mv (.t 13), some (98, false)⟩ ::
             ⟨(some 100), .bin .neq (.t 99) (.c (.int .i64 0)), some (98, false)⟩ ::
             ⟨(some 101), .pick (.t 98) (.c (.bool true)) (.t 100), some (95, true)⟩ ::
             ⟨(some 102), .mv (.t 101), some (95, true)⟩ ::
             ⟨(some 103), .mv (.t 15), some (102, false)⟩ ::
             ⟨(some 104), .bin .neq (.t 103) (.c (.int .i64 0)), some (102, false)⟩ ::
             ⟨(some 105), .pick (.t 102) (.c (.bool true)) (.t 104), some (95, true)⟩ ::
             ⟨(some 106), .mv (.t 105), some (95, true)⟩ ::
             ⟨(some 107), .mv (.t 17), some (106, false)⟩ ::
             ⟨(some 108), .bin .neq (.t 107) (.c (.int .i64 0)), some (106, false)⟩ ::
             ⟨(some 109), .pick (.t 106) (.c (.bool true)) (.t 108), some (95, true)⟩ ::
             ⟨(some 110), .mv (.t 109), some (95, true)⟩ ::
             ⟨(some 111), .mv (.t 0), some (110, false)⟩ ::
             ⟨(some 112), .bin .eql (.t 111) (.c (.int .i64 2)), some (110, false)⟩ ::
             ⟨(some 113), .pick (.t 110) (.c (.bool true)) (.t 112), some (95, true)⟩ ::
             ⟨(some 114), .mv (.t 113), some (95, true)⟩ ::
             ⟨(some 115), .ld 2 true (.t 14), some (114, false)⟩ ::
             ⟨(some 116), .ld 2 true (.t 16), some (114, false)⟩ ::
             ⟨(some 117), .call (.c (.fn 22 [])) [(.t 115), (.t 116)], some (114, false)⟩ ::
             ⟨(some 118), .pick (.t 114) (.c (.bool true)) (.t 117), some (95, true)⟩ ::
             ⟨(some 119), .pick (.t 95) (.t 118) (.c (.bool false)), none⟩ ::
             ⟨(some 6), .mv (.t 119), none⟩ ::
             []))
           .ret)))))))))))
theorem cd_fretworklaw11_BlendUnion : Code1 Try.prog 5 120 ir_fretworklaw11_BlendUnion [.t 6] := ⟨Try.call5, _, _, Try.func5, rfl, by kernel_rfl, by kernel_rfl, by kernel_rfl, by kernel_rfl⟩

set_option maxHeartbeats 8000000 in
theorem fs_BlendUnion (r n : Int) (p q s : List (Int × Int)) (hn : 0 ≤ n ∧ n ≤ 255) (hp : Ib p) (hq : Ib q) (hs : Ib s) : FS Try.prog 5 [.int .i64 r, .int .u8 n, .agg [IL p, IL q, IL s]] (.bool true) := by
  refine fs_of_cvc mixed cd_fretworklaw11_BlendUnion (by simp) ?_
  have ct := fs_Three n p q s hn hp hq hs
  have cr := fs_r2Is r
  obtain ⟨a, ea, ha, ia, la⟩ := sm_ok hn hp
  obtain ⟨b, eb, hb, ib, lb⟩ := sm_ok hn hq
  obtain ⟨c, ec, hc, ic, lc⟩ := sm_ok hn hs
  rw [ea, eb, ec] at ct
  generalize n.tmod 60 = K at *
  cases hr : isR r with
  | false =>
    rw [hr] at cr
    repeat' (conv => whnf); first
      | ((refine Or.inl ⟨by rfl, _, ct, ?_⟩))
      | ((refine Or.inl ⟨by rfl, _, cr, ?_⟩))
      | ((refine Or.inl ⟨by rfl, _, fs_live11, ?_⟩))
      | ((refine And.intro (show _ ≤ _ from Nat.le_of_ble_eq_true rfl) ?_))
      | ((refine Br.beq (by rfl) ?_))
      | ((refine Br.bne (by rfl) ?_))
      | (refine Br.tt ?_)
      | (refine Br.ff ?_)
      | (refine Br.dec (fun h => ?_) (fun h => ?_)) <;> try (exfalso; omega)
      | (refine Br.neg ?_)
      | (refine Br.mk (fun h => ?_) (fun h => ?_))
      | (refine And.intro rfl ?_)
      | (refine And.intro (by omega) ?_)
      | (refine ⟨_, Or.inl ⟨⟨by omega, by omega⟩, rfl⟩, ?_⟩)
      | (refine And.intro (by simp only [lens_all, its_len, eds_len, wds_len]; first | done | omega) ?_)
      | (refine And.intro (Nat.le_refl _) ?_)
      | fail
    all_goals exact rfl
  | true =>
    rw [hr] at cr
    have c1 := fs_bUnion r K a K b (by omega) (by omega) ia ib
    have c2 := fs_bUnion r K b K a (by omega) (by omega) ib ia
    rw [← unR_comm ha hb hr] at c2
    have c3 := fs_bUnion r K b K c (by omega) (by omega) ib ic
    have i1 := unR_ib ha hb ia ib hr
    have i2 := unR_ib hb hc ib ic hr
    have c4 := fs_bUnion r (unR r K a K b).1 (unR r K a K b).2.1 K c (by omega) (by omega) i1.1 ic
    have c5 := fs_bUnion r K a (unR r K b K c).1 (unR r K b K c).2.1 (by omega) (by omega) ia i2.1
    have c6 := fs_bUnion 1 K a K a (by omega) (by omega) ia ia
    rw [unR_min ha ha ia ia, un_self ha ia] at c6
    have s0 := fs_same9 (unR r K a K b).1 (unR r K a K b).2.1 (by omega)
    have s1 := fs_same9 K a (by omega)
    have has := un_assoc ha hb hc ia ib ic hr
    have lh3 : (unR r (unR r K a K b).1 (unR r K a K b).2.1 K c).2.1.length ≤ 4096 := by
      rw [unR_eq]; exact len_un _ _ _ _ _
    generalize unR r (unR r K a K b).1 (unR r K a K b).2.1 K c = t3 at *
    generalize unR r K a (unR r K b K c).1 (unR r K b K c).2.1 = t4 at *
    generalize unR r K a K b = t1 at *
    generalize unR r K b K c = t2 at *
    obtain ⟨n1, l1, e1⟩ := t1
    obtain ⟨n2, l2, e2⟩ := t2
    obtain ⟨n3, l3, e3⟩ := t3
    obtain ⟨n4, l4, e4⟩ := t4
    by_cases hall : r ≠ 2 ∧ e1 = 0 ∧ e2 = 0 ∧ e3 = 0 ∧ e4 = 0
    · obtain ⟨h2, rfl, rfl, rfl, rfl⟩ := hall
      have h34 := has h2 rfl rfl rfl rfl
      have s2 := fs_same9 n3 l3 (Nat.le_trans (show l3.length ≤ 4096 from lh3) (by omega))
      cases h34
      repeat' (conv => whnf); first
        | ((refine Or.inl ⟨by rfl, _, ct, ?_⟩))
        | ((refine Or.inl ⟨by rfl, _, cr, ?_⟩))
        | ((refine Or.inl ⟨by rfl, _, c1, ?_⟩))
        | ((refine Or.inl ⟨by rfl, _, c2, ?_⟩))
        | ((refine Or.inl ⟨by rfl, _, c3, ?_⟩))
        | ((refine Or.inl ⟨by rfl, _, c4, ?_⟩))
        | ((refine Or.inl ⟨by rfl, _, c5, ?_⟩))
        | ((refine Or.inl ⟨by rfl, _, c6, ?_⟩))
        | ((refine Or.inl ⟨by rfl, _, s0, ?_⟩))
        | ((refine Or.inl ⟨by rfl, _, s1, ?_⟩))
        | ((refine Or.inl ⟨by rfl, _, s2, ?_⟩))
        | ((refine Or.inl ⟨by rfl, _, fs_live11, ?_⟩))
        | ((refine And.intro (show _ ≤ _ from Nat.le_of_ble_eq_true rfl) ?_))
        | ((refine Br.beq (by rfl) ?_))
        | ((refine Br.bne (by rfl) ?_))
        | (refine Br.tt ?_)
        | (refine Br.ff ?_)
        | (refine Br.dec (fun h => ?_) (fun h => ?_)) <;> try (exfalso; omega)
        | (refine Br.neg ?_)
        | (refine Br.mk (fun h => ?_) (fun h => ?_))
        | (refine And.intro rfl ?_)
        | (refine And.intro (by omega) ?_)
        | (refine ⟨_, Or.inl ⟨⟨by omega, by omega⟩, rfl⟩, ?_⟩)
        | (refine And.intro (by simp only [lens_all, its_len, eds_len, wds_len]; first | done | omega) ?_)
        | (refine And.intro (Nat.le_refl _) ?_)
        | fail
      all_goals first
        | exact rfl
        | conv => whnf
    · repeat' (conv => whnf); first
        | ((refine Or.inl ⟨by rfl, _, ct, ?_⟩))
        | ((refine Or.inl ⟨by rfl, _, cr, ?_⟩))
        | ((refine Or.inl ⟨by rfl, _, c1, ?_⟩))
        | ((refine Or.inl ⟨by rfl, _, c2, ?_⟩))
        | ((refine Or.inl ⟨by rfl, _, c3, ?_⟩))
        | ((refine Or.inl ⟨by rfl, _, c4, ?_⟩))
        | ((refine Or.inl ⟨by rfl, _, c5, ?_⟩))
        | ((refine Or.inl ⟨by rfl, _, c6, ?_⟩))
        | ((refine Or.inl ⟨by rfl, _, s0, ?_⟩))
        | ((refine Or.inl ⟨by rfl, _, s1, ?_⟩))
        | ((refine Or.inl ⟨by rfl, _, fs_live11, ?_⟩))
        | ((refine And.intro (show _ ≤ _ from Nat.le_of_ble_eq_true rfl) ?_))
        | ((refine Br.beq (by rfl) ?_))
        | ((refine Br.bne (by rfl) ?_))
        | (refine Br.tt ?_)
        | (refine Br.ff ?_)
        | (refine Br.dec (fun h => ?_) (fun h => ?_)) <;> try (exfalso; omega)
        | (refine Br.neg ?_)
        | (refine Br.mk (fun h => ?_) (fun h => ?_))
        | (refine And.intro rfl ?_)
        | (refine And.intro (by omega) ?_)
        | (refine ⟨_, Or.inl ⟨⟨by omega, by omega⟩, rfl⟩, ?_⟩)
        | (refine And.intro (by simp only [lens_all, its_len, eds_len, wds_len]; first | done | omega) ?_)
        | (refine And.intro (Nat.le_refl _) ?_)
        | fail
      all_goals first
        | exact rfl
        | (exfalso; exact hall ⟨h, Classical.not_not.1 (by assumption), Classical.not_not.1 (by assumption), Classical.not_not.1 (by assumption), Classical.not_not.1 (by assumption)⟩)
end
end Go.Proofs.Ytckbagpdahhiiaa
