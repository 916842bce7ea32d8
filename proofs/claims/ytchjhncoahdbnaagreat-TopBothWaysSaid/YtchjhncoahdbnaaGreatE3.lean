/- Times; the document's sums. The document's sums. -/
import Derived.Test.YtchjhncoahdbnaaGreatE2
namespace Go.Proofs.YtchjhncoahdbnaaGreat
section
open Go.RowKit
attribute [local irreducible] FS FO IT HS
theorem sums_w {r : Int} {st col val : List Int} {f : List Nat} {v : List Int} (hval : Zb val) (hv : Zb v) (l : List Nat) : ∀ y ∈ sumsL (fun i => rowO r (dG f v) (rowL st col val i)) l, W128 y.2 := by
  intro y hy
  obtain ⟨i, _, h⟩ := List.mem_filterMap.1 hy
  obtain ⟨s, hs, rfl⟩ := Option.map_eq_some_iff.1 h
  exact rowO_w (dG_I hv) _ (fun x hx => mem_rowL hval hx) none (fun s h => by cases h) s hs
theorem sumsR_w {r : Int} {m : Mat5} {x : Den3} {g : List Nat} {o : Bool} (hval : Zb m.2.2.2.2) (hv : Zb x.2.2) : ∀ y ∈ (sumsR r m x g o).1, W128 y.2 := by
  unfold sumsR
  split
  · split
    · exact sums_w hval hv _
    · intro y hy; cases hy
  · intro y hy; cases hy
theorem sumsR_len {r : Int} {m : Mat5} {x : Den3} {g : List Nat} {o : Bool} (h : m.1 ≤ 4096) : (sumsR r m x g o).1.length ≤ 4096 := by
  unfold sumsR
  split
  · split
    · have h1 := sumsL_le (fun i => rowO r (dG x.2.1 x.2.2) (rowL m.2.2.1 m.2.2.2.1 m.2.2.2.2 i)) (askL m.1 g o)
      have h2 := askL_len m.1 g o
      show (sumsL _ _).length ≤ _
      omega
    · simp
  · simp
def timesR (r : Int) (m : Mat5) (x : Den3) (g : List Nat) (o : Bool) : Int × List (Int × Int) × Int :=
  if (sumsR r m x g o).2 = 0 then doneR r m.1 (sumsR r m x g o).1 else (0, [], (sumsR r m x g o).2)
def ir_pull_Times : IR :=
(.seq (.reg (⟨some 6, .bx (.t 1), none⟩ ::⟨some 7, .bx (.t 2), none⟩ ::⟨some 10, .al [.int .i64 0, .nils], none⟩ ::⟨some 11, .mv (.c (.int .i64 0)), none⟩ :: [])) (.seq (.reg (⟨some 15, .mv (.t 0), none⟩ ::⟨some 16, .ld 5 true (.t 6), none⟩ ::⟨some 17, .ld 3 true (.t 7), none⟩ ::⟨some 18, .mv (.t 3), none⟩ ::⟨some 19, .mv (.t 4), none⟩ ::⟨some 20, .call (.c (.fn 28 [])) [(.t 15), (.t 16), (.t 17), (.t 18), (.t 19)], none⟩ ::⟨some 14, .mv (.t 20), none⟩ ::⟨some 21, .ex 0 (.t 14), none⟩ ::⟨some 22, .ex 1 (.t 14), none⟩ ::⟨some 12, .mv (.t 21), none⟩ ::⟨some 13, .mv (.t 22), none⟩ :: [])) (.seq (.seq (.reg (⟨some 23, .mv (.t 13), none⟩ ::⟨some 24, .bin .neq (.t 23) (.c (.int .i64 0)), none⟩ :: [])) (.cond (.t 24) (.seq (.reg (⟨some 25, .bld [.int .i64 0, .nils] [], none⟩ ::⟨some 26, .mv (.t 13), none⟩ ::⟨none, .st 2 (.t 10) (.t 25), none⟩ ::⟨some 11, .mv (.t 26), none⟩ :: [])) .ret) .skip)) (.seq (.reg (⟨some 28, .ld 5 true (.t 6), none⟩ ::⟨some 29, .ld 3 true (.t 7), none⟩ ::⟨some 30, .call (.c (.fn 29 [])) [(.t 28), (.t 29)], none⟩ ::⟨some 27, .mv (.t 30), none⟩ ::⟨some 31, .ex 0 (.t 27), none⟩ ::⟨some 32, .ex 1 (.t 27), none⟩ ::⟨none, .st 5 (.t 6) (.t 31), none⟩ :: [])) (.seq (.reg (⟨some 33, .mv (.t 0), none⟩ ::⟨some 34, .fa 0 (.t 6), none⟩ ::⟨some 35, .ld 1 false (.t 34), none⟩ ::⟨some 36, .mv (.t 12), none⟩ ::⟨some 37, .call (.c (.fn 12 [])) [(.t 33), (.t 35), (.t 36)], none⟩ ::⟨some 38, .ex 0 (.t 37), none⟩ ::⟨some 39, .ex 1 (.t 37), none⟩ ::⟨none, .st 2 (.t 10) (.t 38), none⟩ ::⟨some 11, .mv (.t 39), none⟩ :: [])) .ret)))))
theorem cd_pull_Times : Code1 Tryz.prog 10 40 ir_pull_Times [.c 2 true 10, .t 11] := ⟨Tryz.call10, _, _, Tryz.func10, rfl, by kernel_rfl, by kernel_rfl, by kernel_rfl, by kernel_rfl⟩
set_option maxHeartbeats 4000000 in
theorem fo_pTimes (r : Int) (rows cols : Int) (st col val : List Int) (n : Int) (f : List Nat) (v : List Int) (g : List Nat) (o : Bool) (hval : Zb val) (hn : I64 n) (hw : Wd f) (hf : f.length ≤ 1000000) (hv : v.length ≤ 1000000) (hvb : Zb v) (hg : Wd g) :
    FO Tryz.prog 10 [.int .i64 r, MX rows cols st col val, DV n f v, U g, .bool o] (VO (timesR r (mS rows cols st col val) (dS n f v) g o)) [.arr 2 (its (timesR r (mS rows cols st col val) (dS n f v) g o).2.1)] := by
  refine fo_of_cvc mixed cd_pull_Times (by simp) ?_
  have c1 := fs_pSums r rows cols st col val n f v g o hval hn hw hf hv hvb hg
  have c2 := fs_psure rows cols st col val n f v hn hw hf hv
  have hM := okM_mS rows cols st col val
  have hwS := sumsR_w (r := r) (m := mS rows cols st col val) (x := dS n f v) (g := g) (o := o) (zb_mS hval) (zb_dS hvb)
  have hlS := sumsR_len (r := r) (m := mS rows cols st col val) (x := dS n f v) (g := g) (o := o) hM.r1
  obtain ⟨t, ht⟩ : ∃ t, timesR r (mS rows cols st col val) (dS n f v) g o = t := ⟨_, rfl⟩
  rw [ht]
  unfold timesR at ht
  generalize sumsR r (mS rows cols st col val) (dS n f v) g o = S at *
  generalize mS rows cols st col val = m at *
  generalize dS n f v = d at *
  obtain ⟨L, e⟩ := S
  obtain ⟨mr, mc, ms, mk, mv⟩ := m
  obtain ⟨dn, df, dv⟩ := d
  have c1' : FS Tryz.prog 28 [.int .i64 r, MX rows cols st col val, DV n f v, U g, .bool o] (.tup [SM L, .int .i64 e]) := c1
  have c2' : FS Tryz.prog 29 [MX rows cols st col val, DV n f v] (.tup [MX mr mc ms mk mv, DV dn df dv]) := c2
  have c3 := fo_pDone r mr L (by simp only at hlS; omega) hwS
  simp only at ht
  by_cases he : e = 0
  · rw [if_pos he] at ht
    rw [ht] at c3
    unfold VO at c3
    repeat' (conv => whnf); first |(refine Or.inl ⟨by rfl, _, c1', ?_⟩) |(refine Or.inl ⟨by rfl, _, c2', ?_⟩) |(refine Or.inr (Or.inl ⟨by rfl, _, _, c3, ?_⟩)) |(refine Br.beq (by rfl) ?_) |(refine Br.bne (by rfl) ?_) |(refine And.intro (Or.inl (Nat.zero_le _)) ?_) |(refine And.intro (show _ ≤ _ from Nat.le_of_ble_eq_true rfl) ?_) |((refine And.intro (by intro y hy; simp at hy; subst hy; rfl) ?_)) | refine Br.tt ?_ | refine Br.ff ?_ |(refine Br.dec (fun h=>?_) (fun h=>?_)) <;> try (exfalso; omega) | refine Br.neg ?_ |(refine Br.mk (fun h=>?_) (fun h=>?_)) | refine And.intro rfl ?_ |(refine And.intro (by omega) ?_) |(refine ⟨_, Or.inl ⟨⟨by omega, by omega⟩, rfl⟩, ?_⟩) |(refine And.intro (by simp only [lens_all, zs_len, U_len, sms_len, its_len, ints_len]; first | done | omega) ?_) |(refine And.intro (Nat.le_refl _) ?_) | fail
    exact Or.inr (Or.inr (FoS.one 3 (MatL.tup (.cons (MatL.agg (.cons (.same _ rfl) (.cons (.osl 0 3 2 0 _ rfl) .nil))) (.cons (.same _ rfl) .nil))) rfl rfl))
  · rw [if_neg he] at ht
    subst ht
    repeat' (conv => whnf); first |(refine Or.inl ⟨by rfl, _, c1', ?_⟩) |(refine Br.beq (by rfl) ?_) |(refine Br.bne (by rfl) ?_) |(refine And.intro (Or.inl (Nat.zero_le _)) ?_) |(refine And.intro (show _ ≤ _ from Nat.le_of_ble_eq_true rfl) ?_) |((refine And.intro (by intro y hy; simp at hy; subst hy; rfl) ?_)) | refine Br.tt ?_ | refine Br.ff ?_ |(refine Br.dec (fun h=>?_) (fun h=>?_)) <;> try (exfalso; omega) | refine Br.neg ?_ |(refine Br.mk (fun h=>?_) (fun h=>?_)) | refine And.intro rfl ?_ |(refine And.intro (by omega) ?_) |(refine ⟨_, Or.inl ⟨⟨by omega, by omega⟩, rfl⟩, ?_⟩) |(refine And.intro (by simp only [lens_all, zs_len, U_len, sms_len, its_len, ints_len]; first | done | omega) ?_) |(refine And.intro (Nat.le_refl _) ?_) | fail
    exact fop_err
theorem fz_VO (x : Int × List (Int × Int) × Int) : frzK 4 [.arr 2 (its x.2.1)] (VO x) fun y => y = VE x := by
  refine ⟨rfl, by rw [its_len]; simp, ?_⟩
  show SV.tup [.agg [.int .i64 x.1, .slc 2 (List.take x.2.1.length (List.drop 0 (its x.2.1)))], .int .i64 x.2.2] = VE x
  rw [frz_its]; rfl
theorem fs_pTimes (r : Int) (rows cols : Int) (st col val : List Int) (n : Int) (f : List Nat) (v : List Int) (g : List Nat) (o : Bool) (hval : Zb val) (hn : I64 n) (hw : Wd f) (hf : f.length ≤ 1000000) (hv : v.length ≤ 1000000) (hvb : Zb v) (hg : Wd g) :
    FS Tryz.prog 10 [.int .i64 r, MX rows cols st col val, DV n f v, U g, .bool o] (VE (timesR r (mS rows cols st col val) (dS n f v) g o)) :=
  fs_of_fo (fo_pTimes r rows cols st col val n f v g o hval hn hw hf hv hvb hg) (fz_VO _)
theorem fs_pDone (r n : Int) (l : List (Int × Int)) (hl : l.length ≤ 1000000) (hw : ∀ x ∈ l, W128 x.2) : FS Tryz.prog 12 [.int .i64 r, .int .i64 n, SM l] (VE (doneR r n l)) :=
  fs_of_fo (fo_pDone r n l hl hw) (fz_VO _)
/-! ### '==' on sums -/
end
section
open Go.RowKit
attribute [local irreducible] FS FO IT HS
end
end Go.Proofs.YtchjhncoahdbnaaGreat
