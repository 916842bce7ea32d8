/- The document's fill; a task's matrix, triple by triple. TopBothWays. -/
import Derived.Test.YtchjhncoahdbnaaGreatK3
import Derived.Test.YtchjhncoahdbnaaGreatJ5
namespace Go.Proofs.YtchjhncoahdbnaaGreat
section
open Go.RowKit
attribute [local irreducible] FS FO IT HS
def filL (k : Nat) (v : Int) : List (Int × Int) := (List.range k).map fun (i : Nat) => ((i : Int), v)
theorem filL_len (k : Nat) (v : Int) : (filL k v).length = k := by simp [filL]
theorem filL_succ (k : Nat) (v : Int) : filL (k + 1) v = filL k v ++ [((k : Int), v)] := by simp [filL, List.range_succ]
def ir_fretworkref09_Fill : IR :=
(.seq (.reg (⟨some 4, .al [.int .i64 0, .nils], none⟩ :: [])) (.seq (.seq (.reg (⟨some 7, .mv (.t 0), none⟩ ::⟨some 8, .bin .lss (.t 7) (.c (.int .i64 0)), none⟩ ::⟨some 9, .mv (.t 8), none⟩ ::⟨some 10, .mv (.t 0), some (9, false)⟩ ::⟨some 11, .bin .gtr (.t 10) (.c (.int .i64 4096)), some (9, false)⟩ ::⟨some 12, .pick (.t 9) (.c (.bool true)) (.t 11), none⟩ :: [])) (.cond (.t 12) (.seq (.reg (⟨some 13, .bld [.int .i64 0, .nils] [], none⟩ ::⟨none, .st 2 (.t 4) (.t 13), none⟩ :: [])) .ret) .skip)) (.seq (.reg (⟨some 14, .mv (.t 0), none⟩ ::⟨some 15, .bld [.int .i64 0, .nils] [(0, 1, (.t 14))], none⟩ ::⟨some 5, .al [.int .i64 0, .nils], none⟩ ::⟨none, .st 2 (.t 5) (.t 15), none⟩ :: [])) (.seq (.seq (.reg (⟨some 6, .mv (.c (.int .i64 0)), none⟩ :: [])) (.block 0 (.loop (.seq (.seq (.reg (⟨some 16, .mv (.t 6), none⟩ ::⟨some 17, .mv (.t 0), none⟩ ::⟨some 18, .bin .lss (.t 16) (.t 17), none⟩ :: [])) (.cond (.t 18) .skip (.exit 0))) (.seq (.block 1 (.reg (⟨some 21, .fa 1 (.t 5), none⟩ ::⟨some 22, .ld 1 false (.t 21), none⟩ ::⟨some 23, .mv (.t 6), none⟩ ::⟨some 24, .mv (.t 1), none⟩ ::⟨some 25, .bld [.int .i64 0, .int .i64 0] [(0, 1, (.t 23)), (1, 1, (.t 24))], none⟩ ::⟨some 26, .bsl 1 2 [.int .i64 0, .int .i64 0] [(0, (.t 25))], none⟩ ::⟨some 27, .ap 2 16 (.t 22) (.t 26), none⟩ ::⟨some 28, .fa 1 (.t 5), none⟩ ::⟨none, .st 1 (.t 28) (.t 27), none⟩ :: []))) (.reg (⟨some 19, .mv (.t 6), none⟩ ::⟨some 20, .bin .add (.t 19) (.c (.int .i64 1)), none⟩ ::⟨some 6, .mv (.t 20), none⟩ :: []))))))) (.seq (.reg (⟨some 29, .ld 2 true (.t 5), none⟩ ::⟨none, .st 2 (.t 4) (.t 29), none⟩ :: [])) .ret)))))
theorem cd_fretworkref09_Fill : Code1 Tryz.prog 15 30 ir_fretworkref09_Fill [.c 2 true 4] := ⟨Tryz.call15, _, _, Tryz.func15, rfl, by kernel_rfl, by kernel_rfl, by kernel_rfl, by kernel_rfl⟩
theorem fs_r9Fill (n v : Int) : FS Tryz.prog 15 [.int .i64 n, .int .i64 v] (if 0 ≤ n ∧ n ≤ 4096 then VC n (filL n.toNat v) else VC 0 []) := by
  refine fs_of_cvc mixed cd_fretworkref09_Fill (by simp) ?_
  by_cases h : 0 ≤ n ∧ n ≤ 4096
  · rw [if_pos h]
    obtain ⟨h0, h1⟩ := h
    repeat' (conv => whnf); first |(refine Br.beq (by rfl) ?_) |(refine Br.bne (by rfl) ?_) |(refine And.intro (Or.inl (Nat.zero_le _)) ?_) |(refine And.intro (show _ ≤ _ from Nat.le_of_ble_eq_true rfl) ?_) |((refine And.intro (by intro y hy; simp at hy; subst hy; rfl) ?_)) | refine Br.tt ?_ | refine Br.ff ?_ |(refine Br.dec (fun h=>?_) (fun h=>?_)) <;> try (exfalso; omega) | refine Br.neg ?_ |(refine Br.mk (fun h=>?_) (fun h=>?_)) | refine And.intro rfl ?_ |(refine And.intro (by omega) ?_) |(refine ⟨_, Or.inl ⟨⟨by omega, by omega⟩, rfl⟩, ?_⟩) |(refine And.intro (by simp only [lens_all, its_len]; first | done | omega) ?_) |(refine And.intro (Nat.le_refl _) ?_) | fail
    refine ⟨Nat, fun k => (k : Int) ≤ n, fun k => [(0, .int .i64 n), (1, .int .i64 v), (4, .ptr 0 0 0 0), (5, .ptr 1 0 0 0), (6, .int .i64 (k : Int))], fun k => [.vars [.int .i64 0, .nils], .vars [.int .i64 n, .osl 2 2 0 k], .arr 2 (its (filL k v))], fun _ => none, fun k => n.toNat - k,
      ⟨0, h0, ⟨rfl, rfl, rfl, rfl, rfl, trivial⟩, ⟨⟨rfl, rfl, trivial⟩, ⟨rfl, ⟨Nat.le_refl _, rfl, rfl⟩, trivial⟩, rfl, trivial⟩, rfl⟩, fun k hk => ?_⟩
    have hk : (k : Int) ≤ n := hk
    have hfl := filL_len k v
    have hil := its_len (filL k v)
    repeat' (conv => whnf); first |(refine Br.beq (by rfl) ?_) |(refine Br.bne (by rfl) ?_) |(refine And.intro (Or.inl (Nat.zero_le _)) ?_) |(refine And.intro (show _ ≤ _ from Nat.le_of_ble_eq_true rfl) ?_) |((refine And.intro (by intro y hy; simp at hy; subst hy; rfl) ?_)) | refine Br.tt ?_ | refine Br.ff ?_ |(refine Br.dec (fun h=>?_) (fun h=>?_)) <;> try (exfalso; omega) | refine Br.neg ?_ |(refine Br.mk (fun h=>?_) (fun h=>?_)) | refine And.intro rfl ?_ |(refine And.intro (by omega) ?_) |(refine ⟨_, Or.inl ⟨⟨by omega, by omega⟩, rfl⟩, ?_⟩) |(refine And.intro (by simp only [lens_all]; first | done | omega) ?_) |(refine And.intro (Nat.le_refl _) ?_) | fail
    · have hk2 : (k : Int) < n := h
      refine ⟨k + 1, (show ((k + 1 : Nat) : Int) ≤ n by omega), (show n.toNat - (k + 1) < n.toNat - k by omega), ⟨rfl, rfl, rfl, rfl, rfl, trivial⟩, ⟨⟨rfl, rfl, trivial⟩, ⟨rfl, rfl, trivial⟩, ?_, trivial⟩, rfl⟩
      rw [filL_succ, its_append]; rfl
    · obtain rfl : n.toNat = k := by omega
      conv => whnf
      rw [frz_len hfl.symm]
      rfl
  · rw [if_neg h]
    repeat' (conv => whnf); first |(refine Br.beq (by rfl) ?_) |(refine Br.bne (by rfl) ?_) |(refine And.intro (Or.inl (Nat.zero_le _)) ?_) |(refine And.intro (show _ ≤ _ from Nat.le_of_ble_eq_true rfl) ?_) |((refine And.intro (by intro y hy; simp at hy; subst hy; rfl) ?_)) | refine Br.tt ?_ | refine Br.ff ?_ |(refine Br.dec (fun h=>?_) (fun h=>?_)) <;> try (exfalso; omega) | refine Br.neg ?_ |(refine Br.mk (fun h=>?_) (fun h=>?_)) | refine And.intro rfl ?_ |(refine And.intro (by omega) ?_) |(refine ⟨_, Or.inl ⟨⟨by omega, by omega⟩, rfl⟩, ?_⟩) |(refine And.intro (by simp only [lens_all, its_len]; first | done | omega) ?_) |(refine And.intro (Nat.le_refl _) ?_) | fail
    all_goals first | exact rfl | exact trivial | exact ⟨rfl, trivial⟩
theorem okV_fil {n : Int} (h0 : 0 ≤ n) (h1 : n ≤ 4096) (v : Int) : OkV n (filL n.toNat v) := by
  refine ⟨h0, h1, ?_, fun x hx => ?_⟩
  · unfold Up filL
    rw [List.pairwise_map]
    exact List.pairwise_lt_range.imp fun {a b} h => by simp only; omega
  · obtain ⟨i, hi, rfl⟩ := List.mem_map.1 hx
    rw [List.mem_range] at hi
    simp only; omega
theorem work_all {rows cols : Int} {S : List Tri} (hT : OkT cols rows S) : ((plsI (sl cols (filL cols.toNat 1))).map fun a => ((colT S a).length : Int)).sum = (S.length : Int) := by
  have hV := okV_fil hT.r.1 hT.r.2 1
  rw [hV.sl]
  have e : (plsI (filL cols.toNat 1)).map (fun a => ((colT S a).length : Int)) = (List.range cols.toNat).map fun (i : Nat) => ((colT S (i : Int)).length : Int) := by
    unfold plsI filL
    rw [List.map_map, List.map_map]; rfl
  rw [e, col_sum S (fun y hy => (hT.inr y hy).1), cntB_all fun y hy => by have := hT.inr y hy; have := hT.r; omega]
/-! ### A task's matrix -/
def tkE (rows cols : Int) (l : List Tri) : List Tri := (cmbR 1 (tris rows cols (l.take 60))).1
def tkL (r a b : Int) (l : List Tri) : List Tri := (tkE (a.tmod 40) (b.tmod 40) l).map fun x => (x.1, x.2.1, facR (rgt r) x.2.2)
theorem stB_map (rows : Int) (E : List Tri) (f : Int → Int) : stB rows (E.map fun x => (x.1, x.2.1, f x.2.2)) = stB rows E := by
  unfold stB
  refine tab_congr fun k _ => ?_
  have : cntB (E.map fun x => (x.1, x.2.1, f x.2.2)) k = cntB E k := by
    unfold cntB
    rw [List.filter_map, List.length_map]; rfl
  rw [this]
theorem tkM_T (r a b : Int) (l : List Tri) : tkM r a b l = (a.tmod 40, b.tmod 40, stB (a.tmod 40) (tkL r a b l), (tkL r a b l).map (fun x => x.2.1), (tkL r a b l).map fun x => x.2.2) := by
  unfold tkL
  rw [stB_map]
  simp only [List.map_map]
  unfold tkM smM bM
  simp only [List.map_map]
  rfl
theorem okT_tk {r a b : Int} {l : List Tri} (ha : 0 ≤ a ∧ a ≤ 255) (hb : 0 ≤ b ∧ b ≤ 255) (hl : ∀ x ∈ l, I64 x.2.2) : OkT (a.tmod 40) (b.tmod 40) (tkL r a b l) ∧ (∀ x ∈ tkL r a b l, I64 x.2.2 ∧ ∃ n, I64 n ∧ x.2.2 = facR (rgt r) n) ∧ (tkL r a b l).length ≤ 60 := by
  have hr := tmod_bd (a := a) (k := 40) ha.1 (by omega)
  have hc := tmod_bd (a := b) (k := 40) hb.1 (by omega)
  have hi := tris_in hr.1 hc.1 (mem60 hl)
  have hlen := tris_len (a.tmod 40) (b.tmod 40) (l.take 60)
  have h60 := take60 l
  have hcl := cmbR_len 1 (tris (a.tmod 40) (b.tmod 40) (l.take 60))
  have hrise := cmbR_rise 1 (tris (a.tmod 40) (b.tmod 40) (l.take 60))
  have hzb := (smM_ok (rows := a.tmod 40) (cols := b.tmod 40) ⟨hr.1, by omega⟩ ⟨hc.1, by omega⟩ hl).2.2
  have hmem : ∀ x ∈ (cmbR 1 (tris (a.tmod 40) (b.tmod 40) (l.take 60))).1, 0 ≤ x.1 ∧ x.1 < a.tmod 40 ∧ 0 ≤ x.2.1 ∧ x.2.1 < b.tmod 40 := fun x hx => by
    have := cmbR_mem (r := 1) (l := tris (a.tmod 40) (b.tmod 40) (l.take 60)) (Q := fun p q => 0 ≤ p ∧ p < a.tmod 40 ∧ 0 ≤ q ∧ q < b.tmod 40) (fun x hx => of_decide_eq_true (List.all_eq_true.1 hi.1 x hx)) x hx
    exact this
  have hval : ∀ x ∈ (cmbR 1 (tris (a.tmod 40) (b.tmod 40) (l.take 60))).1, I64 x.2.2 := fun x hx => hzb _ (by
    unfold smM bM
    exact List.mem_map.2 ⟨x, hx, rfl⟩)
  unfold tkL tkE
  refine ⟨⟨⟨hr.1, by omega⟩, ⟨hc.1, by omega⟩, ?_, fun x hx => ?_, by rw [List.length_map]; omega⟩, fun x hx => ?_, by rw [List.length_map]; omega⟩
  · unfold Rise
    rw [List.pairwise_map]
    exact hrise.imp fun {p q} h => by rw [bel_iff] at *; exact h
  · obtain ⟨y, hy, rfl⟩ := List.mem_map.1 hx
    exact hmem y hy
  · obtain ⟨y, hy, rfl⟩ := List.mem_map.1 hx
    exact ⟨facR_i (hval y hy), _, hval y hy, rfl⟩
theorem colT_bd {L : List Tri} (a : Int) : (colT L a).length ≤ L.length := by
  have := pt_length L a.toNat
  have := cntB_le L (a.toNat + 1)
  unfold colT
  rw [List.length_map]; omega
theorem colT_of {L : List Tri} {a : Int} {y : Int × Int} (h : y ∈ colT L a) : ∃ x ∈ L, y = (x.2.1, x.2.2) := by
  unfold colT at h
  obtain ⟨x, hx, rfl⟩ := List.mem_map.1 h
  exact ⟨x, pt_mem hx, rfl⟩
theorem turn_of {L : List Tri} {x : Tri} (h : x ∈ turnT L) : (x.2.1, x.1, x.2.2) ∈ L := by
  obtain ⟨x1, x2, x3⟩ := x
  exact turn_in.1 h
end
section
open Go.RowKit
attribute [local irreducible] FS FO IT HS
theorem done_len (r n : Int) (l : List (Int × Int)) : (doneR r n l).2.1.length ≤ l.length := by
  have := List.length_filterMap_le (keepS r) l
  unfold doneR
  (repeat' split) <;> simp <;> omega
theorem fs_one : FS Tryz.prog 12 [.int .i64 5, .int .i64 1, .slc 3 [[.int .i64 0, .int .i64 0, .int .u64 4]]] (.tup [VC 1 [(0, 4)], .int .i64 0]) := by
  have h := fs_pDone 5 1 [(0, 4)] (by simp) (fun x hx => by simp at hx; subst hx; unfold W128; omega)
  have e : doneR 5 1 [(0, 4)] = (1, [(0, 4)], 0) := by kernel_rfl
  have e2 : SM [(0, 4)] = .slc 3 [[.int .i64 0, .int .i64 0, .int .u64 4]] := by kernel_rfl
  rw [e, e2] at h
  exact h
theorem fs_pushed {R rows cols : Int} (hR : isR R = true) {L : List Tri} (hT : OkT rows cols L) (hL : L.length ≤ 60) (hi : ∀ x ∈ L, I64 x.2.2) {W : List (Int × Int)} (hV : OkV cols W) (hWl : W.length ≤ 60) (hWi : ∀ x ∈ W, I64 x.2) (g : List Nat) (hg : Wd g) (o : Bool)
    (_hw : ∀ x ∈ sumsL (fun i => rowO R (gt W) (rowL (stB rows L) (L.map fun x => x.2.1) (L.map fun x => x.2.2) i)) (askL rows g o), W128 x.2) :
    FS Tryz.prog 26 [.int .i64 R, DX rows cols (jcN (turnT L) (turnT L).length).1 (jcN (turnT L) (turnT L).length).2 ((turnT L).map fun x => x.2.1) ((turnT L).map fun x => x.2.2), VC cols W, U g, .bool o]
      (.tup [SM (sumsL (fun i => rowO R (gt W) (rowL (stB rows L) (L.map fun x => x.2.1) (L.map fun x => x.2.2) i)) (askL rows g o)), .int .i64 0]) := by
  have hT' := hT.turn
  have h0 : ∀ y ∈ turnT L, 0 ≤ y.1 := fun y hy => (hT'.inr y hy).1
  have hr := hT.r
  have hbd : ∀ a, (colT (turnT L) a).length ≤ 60 := fun a => by
    have := colT_bd (L := turnT L) a
    rw [turnT_len] at this; omega
  have hci : ∀ a, ∀ y ∈ colT (turnT L) a, 0 ≤ y.1 ∧ y.1 ≤ 1000000 ∧ I64 y.2 := fun a y hy => by
    obtain ⟨x, hx, rfl⟩ := colT_of hy
    have h1 := hT'.inr x hx
    have h2 := hi _ (turn_of hx)
    exact ⟨h1.2.2.1, by simp only; omega, h2⟩
  have q := fs_puSums R hR (okC_of hT') hV (by omega) g hg o (CC := colT (turnT L)) (fun x hx => (col_of hT' x.1 (hV.lo x hx).1).1) hWi (fun x _ => by have := hbd x.1; omega) (fun x _ => hci x.1) (fun x _ => up_risC (colR_up (colT_up hT'.rise h0 x.1)))
    (fun x hx y hy => by
      obtain ⟨z, hz, rfl⟩ := colR_mem hy
      exact rMul_w (hci x.1 z hz).2.2 (hWi x hx))
    (by
      have h1 : ∀ l ∈ colsP R g o (colT (turnT L)) W, l.length ≤ 60 := fun l hl => by
        unfold colsP at hl
        obtain ⟨s, _, rfl⟩ := List.mem_map.1 hl
        have := colR_le R s.2 g o (colT (turnT L) s.1)
        have := hbd s.1
        omega
      have h2 := tw_in h1 _ (Nat.le_refl _)
      have h3 : (colsP R g o (colT (turnT L)) W).length = W.length := by unfold colsP; rw [List.length_map]
      rw [h3] at h2 ⊢
      omega)
  rw [push_pull hT hV g o] at q
  exact q
def ir_fretworktop_TopBothWays : IR :=
(.seq (.reg (⟨some 1, .bx (.t 0), none⟩ ::⟨some 2, .mv (.c (.bool false)), none⟩ :: [])) (.seq (.reg (⟨some 14, .fa 0 (.t 1), none⟩ ::⟨some 15, .ld 1 false (.t 14), none⟩ ::⟨some 16, .call (.c (.fn 4 [])) [(.t 15)], none⟩ ::⟨some 3, .mv (.t 16), none⟩ :: [])) (.seq (.draw (⟨some 17, .ld 8 true (.t 1), none⟩ ::⟨some 18, .call (.c (.fn 5 [])) [(.t 17)], none⟩ ::⟨some 19, .ld 8 true (.t 1), none⟩ ::⟨some 20, .fa 4 (.t 1), none⟩ ::⟨some 21, .ld 1 false (.t 20), none⟩ ::⟨some 22, .call (.c (.fn 6 [])) [(.t 19), (.t 21)], none⟩ ::⟨some 23, .ld 8 true (.t 1), none⟩ ::⟨some 24, .call (.c (.fn 7 [])) [(.t 23)], none⟩ ::⟨some 4, .al [.int .i64 0, .int .i64 0, .nils, .nils, .nils], none⟩ ::⟨some 5, .al [.int .i64 0, .nils], none⟩ :: []) (⟨none, .st 5 (.t 4) (.t 18), none⟩ ::⟨none, .st 2 (.t 5) (.t 22), none⟩ ::⟨some 6, .mv (.t 24), none⟩ :: [])) (.seq (.reg (⟨some 25, .ld 5 true (.t 4), none⟩ ::⟨some 26, .call (.c (.fn 8 [])) [(.t 25)], none⟩ ::⟨some 7, .al [.int .i64 0, .int .i64 0, .nils, .nils, .nils, .nils], none⟩ ::⟨none, .st 6 (.t 7) (.t 26), none⟩ :: [])) (.seq (.reg (⟨some 28, .mv (.t 3), none⟩ ::⟨some 29, .ld 6 true (.t 7), none⟩ ::⟨some 30, .ld 2 true (.t 5), none⟩ ::⟨some 31, .mv (.t 6), none⟩ ::⟨some 32, .fa 7 (.t 1), none⟩ ::⟨some 33, .ld 1 false (.t 32), none⟩ ::⟨some 34, .call (.c (.fn 9 [])) [(.t 28), (.t 29), (.t 30), (.t 31), (.t 33)], none⟩ ::⟨some 27, .mv (.t 34), none⟩ ::⟨some 35, .ex 0 (.t 27), none⟩ ::⟨some 36, .ex 1 (.t 27), none⟩ ::⟨some 8, .al [.int .i64 0, .nils], none⟩ ::⟨none, .st 2 (.t 8) (.t 35), none⟩ ::⟨some 9, .mv (.t 36), none⟩ :: [])) (.seq (.drawL (⟨some 38, .mv (.t 3), none⟩ ::⟨some 39, .ld 5 true (.t 4), none⟩ ::⟨some 40, .ld 2 true (.t 5), none⟩ ::⟨some 41, .call (.c (.fn 11 [])) [(.t 40)], none⟩ ::⟨some 42, .mv (.t 6), none⟩ ::⟨some 43, .fa 7 (.t 1), none⟩ ::⟨some 44, .ld 1 false (.t 43), none⟩ ::⟨some 45, .call (.c (.fn 10 [])) [(.t 38), (.t 39), (.t 41), (.t 42), (.t 44)], none⟩ ::⟨some 37, .mv (.t 45), none⟩ ::⟨some 46, .ex 0 (.t 37), none⟩ ::⟨some 47, .ex 1 (.t 37), none⟩ ::⟨some 10, .al [.int .i64 0, .nils], none⟩ :: []) (⟨some 47, .ex 1 (.t 37), none⟩ :: []) (⟨none, .st 2 (.t 10) (.t 46), none⟩ :: []) (⟨some 11, .mv (.t 47), none⟩ :: [])) (.seq (.reg (⟨some 49, .bld [.int .i64 0, .int .u64 0] [(1, 1, (.c (.int .u64 4)))], none⟩ ::⟨some 50, .bld [.int .i64 0, .int .i64 0, .int .u64 0] [(1, 2, (.t 49))], none⟩ ::⟨some 51, .bsl 1 3 [.int .i64 0, .int .i64 0, .int .u64 0] [(0, (.t 50))], none⟩ ::⟨some 52, .call (.c (.fn 12 [])) [(.c (.int .i64 5)), (.c (.int .i64 1)), (.t 51)], none⟩ ::⟨some 48, .mv (.t 52), none⟩ ::⟨some 53, .ex 0 (.t 48), none⟩ ::⟨some 54, .ex 1 (.t 48), none⟩ ::⟨some 12, .al [.int .i64 0, .nils], none⟩ ::⟨none, .st 2 (.t 12) (.t 53), none⟩ ::⟨some 13, .mv (.t 54), none⟩ :: [])) (.seq (.draw (⟨some 55, .fa 1 (.t 12), none⟩ ::⟨some 56, .ld 1 false (.t 55), none⟩ ::⟨some 57, .ln (.t 56), none⟩ ::⟨some 58, .bin .eql (.t 57) (.c (.int .i64 1)), none⟩ ::⟨some 59, .mv (.t 58), none⟩ ::⟨some 60, .mv (.t 9), some (59, true)⟩ ::⟨some 61, .mv (.t 11), some (59, true)⟩ ::⟨some 62, .bin .eql (.t 60) (.t 61), some (59, true)⟩ ::⟨some 63, .pick (.t 59) (.t 62) (.c (.bool false)), none⟩ ::⟨some 64, .mv (.t 63), none⟩ ::⟨some 65, .ld 2 true (.t 8), some (64, true)⟩ ::⟨some 66, .ld 2 true (.t 10), some (64, true)⟩ ::⟨some 67, .call (.c (.fn 13 [])) [(.t 65), (.t 66)], some (64, true)⟩ ::⟨some 68, .pick (.t 64) (.t 67) (.c (.bool false)), none⟩ ::⟨some 69, .mv (.t 68), none⟩ ::⟨some 70, .ld 6 true (.t 7), some (69, true)⟩ ::⟨some 71, .fa 1 (.t 4), some (69, true)⟩ ::⟨some 72, .ld 1 false (.t 71), some (69, true)⟩ ::⟨some 73, .call (.c (.fn 15 [])) [(.t 72), (.c (.int .i64 1))], some (69, true)⟩ ::⟨some 74, .call (.c (.fn 14 [])) [(.t 70), (.t 73)], some (69, true)⟩ ::⟨some 75, .ld 5 true (.t 4), some (69, true)⟩ :: []) (⟨some 76, .call (.c (.fn 16 [])) [(.t 75)], some (69, true)⟩ ::⟨some 77, .bin .eql (.t 74) (.t 76), some (69, true)⟩ ::⟨some 78, .pick (.t 69) (.t 77) (.c (.bool false)), none⟩ ::⟨some 2, .mv (.t 78), none⟩ :: [])) .ret))))))))
theorem cd_fretworktop_TopBothWays : Code1 Tryz.prog 3 79 ir_fretworktop_TopBothWays [.t 2] := ⟨Tryz.call3, _, _, Tryz.func3, rfl, by kernel_rfl, by kernel_rfl, by kernel_rfl, by kernel_rfl⟩
set_option maxHeartbeats 4000000 in
theorem fs_TopBothWays (r a b : Int) (l : List Tri) (x y : List (Int × Int)) (f : List Nat) (o : Bool) (ha : 0 ≤ a ∧ a ≤ 255) (hb : 0 ≤ b ∧ b ≤ 255) (hl : ∀ x ∈ l, I64 x.2.2) (hx : Ib x) (hf : Wd f) :
    FS Tryz.prog 3 [TK r a b l x y f o] (.bool true) := by
  refine fs_of_cvc mixed cd_fretworktop_TopBothWays (by simp) ?_
  have k1 := fs_Right13 r
  have k2 := fs_Matrix r a b l x y f o ha hb hl
  have k3 := fs_Vector r a b l x y f o x hb hx
  have k4 := fs_Rows13 r a b l x y f o
  obtain ⟨hT, hTi, hTl⟩ := okT_tk (r := r) ha hb hl
  have hzb := zb_fac (r := r) ha hb hl
  have hMT := tkM_T r a b l
  obtain ⟨e1, hV, hvi, hvl⟩ := tkV_V (r := r) hb hx
  rw [e1] at k3
  have k5 := fs_dOf (b.tmod 40) (tkV r b x).2 (by omega)
  rw [hV.sn, hV.sl] at k5
  have hWi : ∀ z ∈ (tkV r b x).2, I64 z.2 := fun z hz => by obtain ⟨n, hn, e⟩ := hvi z hz; rw [e]; exact valR_i hn
  have hzv : Zb (toL (b.tmod 40) (tkV r b x).2) := zb_toL hWi
  have hD := okD_to hV
  have hR := rgt_R r
  have hfw : Wd (f.take 2) := fun x hx => hf x (List.mem_of_mem_take hx)
  rw [hMT] at k2 hzb
  have hLi : ∀ x ∈ tkL r a b l, I64 x.2.2 := fun x hx => (hTi x hx).1
  clear hTi hvi hMT e1
  generalize f.take 2 = g at *
  generalize rgt r = R at *
  generalize tkL r a b l = L at *
  generalize (tkV r b x).2 = W at *
  generalize a.tmod 40 = rows at *
  generalize b.tmod 40 = cols at *
  have hM := hT.ok
  have iN : I64 cols := by have := hT.c; unfold I64; omega
  unfold dV at k5
  have p1 := fs_pTimes R rows cols (stB rows L) (L.map fun x => x.2.1) (L.map fun x => x.2.2) cols (toF cols W) (toL cols W) g o hzb iN hD.wd (dl_f hV) (dl_v hV) hzv hfw
  rw [hM.mS, hD.dS] at p1
  unfold timesR at p1
  rw [sumsR_fit hR rfl] at p1
  simp only at p1
  have hwD := sums_w (r := R) (st := stB rows L) (col := L.map fun x => x.2.1) (val := L.map fun x => x.2.2) (f := toF cols W) (v := toL cols W) hzb hzv (askL rows g o)
  have eG : (fun i => rowO R (dG (toF cols W) (toL cols W)) (rowL (stB rows L) (L.map fun x => x.2.1) (L.map fun x => x.2.2) i)) = fun i => rowO R (gt W) (rowL (stB rows L) (L.map fun x => x.2.1) (L.map fun x => x.2.2) i) := by
    rw [show dG (toF cols W) (toL cols W) = gt W from funext fun c => dG_to hV c]
  rw [eG] at p1 hwD
  have q1 := fs_pushed hR hT hTl hLi hV hvl hWi g hfw o hwD
  have hsl := sumsL_le (fun i => rowO R (gt W) (rowL (stB rows L) (L.map fun x => x.2.1) (L.map fun x => x.2.2) i)) (askL rows g o)
  have hal : (askL rows g o).length ≤ 4096 := by
    have := List.length_filter_le (fun (i : Nat) => hasI g (i : Int) != o) (List.range rows.toNat)
    rw [List.length_range] at this
    have := hT.r
    unfold askL
    omega
  have hT' := hT.turn
  have hC := okC_of hT'
  have q2 := fs_puTimes R hC hV (by omega) g o q1 (by omega) hwD
  have k6 := fs_dcOf hT
  have w1 := fs_r9Fill cols 1
  rw [if_pos hT.c] at w1
  have w2 := fs_puWork hC cols (filL cols.toNat 1) (by rw [filL_len]; have := hT.c; omega) (W := fun a => ((colT (turnT L) a).length : Int)) (fun a ha => by
    rw [(okV_fil hT.c.1 hT.c.2 1).sl] at ha
    unfold plsI at ha
    obtain ⟨z, hz, rfl⟩ := List.mem_map.1 ha
    exact (col_of hT' z.1 ((okV_fil hT.c.1 hT.c.2 1).lo z hz).1).2)
  have ew : ((turnT L).length : Int) = (L.length : Int) := by rw [turnT_len]
  rw [work_all hT', ew] at w2
  clear ew
  have w3 := fs_cCount hT
  generalize (jcN (turnT L) (turnT L).length).1 = jc at *
  generalize (jcN (turnT L) (turnT L).length).2 = cp at *
  generalize ((turnT L).map fun x => x.2.1) = ir at *
  generalize ((turnT L).map fun x => x.2.2) = num at *
  have hdl : (doneR R rows (sumsL (fun i => rowO R (gt W) (rowL (stB rows L) (L.map fun x => x.2.1) (L.map fun x => x.2.2) i)) (askL rows g o))).2.1.length ≤ 100000 := by
    have := done_len R rows (sumsL (fun i => rowO R (gt W) (rowL (stB rows L) (L.map fun x => x.2.1) (L.map fun x => x.2.2) i)) (askL rows g o))
    omega
  generalize sumsL (fun i => rowO R (gt W) (rowL (stB rows L) (L.map fun x => x.2.1) (L.map fun x => x.2.2) i)) (askL rows g o) = M at *
  have p1' : FS Tryz.prog 10 [.int .i64 R, MTr rows cols L, DV cols (toF cols W) (toL cols W), U g, .bool o] (.tup [VC (doneR R rows M).1 (doneR R rows M).2.1, .int .i64 (doneR R rows M).2.2]) := p1
  have q2' : FS Tryz.prog 9 [.int .i64 R, DX rows cols jc cp ir num, VC cols W, U g, .bool o] (.tup [VC (doneR R rows M).1 (doneR R rows M).2.1, .int .i64 (doneR R rows M).2.2]) := q2
  have k2' : FS Tryz.prog 5 [TK r a b l x y f o] (MTr rows cols L) := k2
  clear p1 q1 q2 k2
  generalize doneR R rows M = X at *
  obtain ⟨n, D, e⟩ := X
  simp only at p1' q2' hdl
  have s1 := fs_r9Same n n D D (by omega) (by omega)
  rw [decide_eq_true rfl, decide_eq_true rfl] at s1
  have s1' : FS Tryz.prog 13 [VC n D, VC n D] (.bool true) := s1
  have k0 := fs_one
  repeat' (conv => whnf); first |(refine Or.inl ⟨by rfl, _, k1, ?_⟩) |(refine Or.inl ⟨by rfl, _, k2', ?_⟩) |(refine Or.inl ⟨by rfl, _, k3, ?_⟩) |(refine Or.inl ⟨by rfl, _, k4, ?_⟩) |(refine Or.inl ⟨by rfl, _, k5, ?_⟩) |(refine Or.inl ⟨by rfl, _, k6, ?_⟩) |(refine Or.inl ⟨by rfl, _, q2', ?_⟩) |(refine Or.inl ⟨by rfl, _, p1', ?_⟩) |(refine Or.inl ⟨by rfl, _, k0, ?_⟩) |(refine Or.inl ⟨by rfl, _, s1', ?_⟩) |(refine Or.inl ⟨by rfl, _, w1, ?_⟩) |(refine Or.inl ⟨by rfl, _, w2, ?_⟩) |(refine Or.inl ⟨by rfl, _, w3, ?_⟩) |((refine ex_but 5 ?_; refine And.intro ?_ ?_; focus ((repeat' (first | exact trivial | exact rfl | (refine And.intro ?_ ?_) | omega | exact Nat.le_of_ble_eq_true rfl | ((conv => whnf); first | exact trivial | exact rfl | (refine And.intro ?_ ?_)))); done))) |(exact rfl) |(exact trivial) |((refine And.intro ?_ ?_; focus ((repeat' (first | exact trivial | exact rfl | (refine And.intro ?_ ?_) | omega | exact Nat.le_of_ble_eq_true rfl | ((conv => whnf); first | exact trivial | exact rfl | (refine And.intro ?_ ?_)))); done))) |(refine Br.beq (by rfl) ?_) |(refine Br.bne (by rfl) ?_) |(refine And.intro (show _ ≤ _ from Nat.le_of_ble_eq_true rfl) ?_) | refine Br.tt ?_ | refine Br.ff ?_ |(refine Br.dec (fun h=>?_) (fun h=>?_)) <;> try (exfalso; omega) | refine Br.neg ?_ |(refine Br.mk (fun h=>?_) (fun h=>?_)) | refine And.intro rfl ?_ |(refine And.intro (by omega) ?_) |(refine ⟨_, Or.inl ⟨⟨by omega, by omega⟩, rfl⟩, ?_⟩) |(refine And.intro (by simp only [lens_all, its_len]; first | done | omega) ?_) |(refine And.intro (Nat.le_refl _) ?_) | fail
  all_goals (show SV.bool _ = SV.bool _; simp)
end
end Go.Proofs.YtchjhncoahdbnaaGreat
