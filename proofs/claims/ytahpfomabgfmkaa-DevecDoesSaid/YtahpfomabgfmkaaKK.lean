/- Dense vectors: what the laws call; the first laws. The laws on dense vectors. Each item of a vector turned; a part of a vector. Vectors one behind the other, of one value, alike: the program's. What a dense vector has is what the sparse one has. -/
import Derived.Test.YtahpfomabgfmkaaKJ
namespace Go.Proofs.Ytahpfomabgfmkaa
section
open Go.RowKit
attribute [local irreducible] FS FO IT HS

section
variable {n : Int} {l : List (Int × Int)} (h : OkV n l)
include h
theorem OkV.i64 : I64 n := by have := h.n0; have := h.n1; unfold I64; omega
theorem dl_f : (toF n l).length ≤ 1000000 := by have := (okD_to h).len; omega
theorem dl_v : (toL n l).length ≤ 1000000 := by have := (okD_to h).vl; have := h.n1; omega
theorem bits_to : (bits (toF n l)).length = l.length := by
  have := congrArg List.length (bk_to h)
  simpa [bkL] using this
theorem fv_Right : FS Try.prog 17 [dV n l] (.bool true) := by
  have := fs_dRight n (toF n l) (toL n l) h.i64 (okD_to h).wd (dl_f h) (dl_v h)
  rwa [(okD_to h).right] at this
theorem fv_Back : FS Try.prog 20 [dV n l] (VC n l) := by
  have := fs_dBack n (toF n l) (toL n l) h.i64 (okD_to h).wd (dl_f h) (dl_v h)
  rwa [(okD_to h).dS, bk_to h] at this
theorem fv_Get (p : Int) (hp : I64 p) : FS Try.prog 27 [dV n l, .int .i64 p] (.tup [.int .i64 ((gt l p).getD 0), .bool (gt l p).isSome]) := by
  have := fs_dGet n (toF n l) (toL n l) p h.i64 hp (okD_to h).wd (dl_f h) (dl_v h)
  rwa [(okD_to h).dS, dG_to h] at this
theorem fv_Count : FS Try.prog 33 [dV n l] (.int .i64 (l.length : Int)) := by
  have := fs_dCount n (toF n l) (toL n l) h.i64 (okD_to h).wd (dl_f h) (dl_v h)
  rwa [(okD_to h).dS, bits_to h] at this
theorem fv_Set (p x : Int) (hp : I64 p) : FS Try.prog 29 [dV n l, .int .i64 p, .int .i64 x] (dV n (putR n l p x)) := by
  have := fs_dSet n (toF n l) (toL n l) p x h.i64 hp (okD_to h).wd (dl_f h) (dl_v h)
  rwa [(okD_to h).dS, bk_to h] at this
theorem fv_Drop (p : Int) (hp : I64 p) : FS Try.prog 31 [dV n l, .int .i64 p] (dV n (rest (fun y => decide (y.1 = p)) l)) := by
  have := fs_dDrop n (toF n l) (toL n l) p h.i64 hp (okD_to h).wd (dl_f h) (dl_v h)
  rwa [(okD_to h).dS, bk_to h] at this
theorem fv_Only (g : List Nat) (hg : Wd g) (hgl : g.length ≤ 1000000) : FS Try.prog 35 [dV n l, U g] (dV n (l.filter fun x => hasI g x.1)) := by
  have := fs_dOnly n (toF n l) (toL n l) g h.i64 (okD_to h).wd hg (dl_f h) (dl_v h) hgl
  rwa [(okD_to h).dS, bk_to h] at this
theorem fv_Part (p q : Int) (hp : I64 p) (hq : I64 q) : FS Try.prog 37 [dV n l, .int .i64 p, .int .i64 q] (dV (ptR n l p q).1 (ptR n l p q).2) := by
  have := fs_dPart n (toF n l) (toL n l) p q h.i64 hp hq (okD_to h).wd (dl_f h) (dl_v h)
  rwa [(okD_to h).dS, bk_to h] at this
theorem fv_Of : FS Try.prog 23 [VC n l] (dV n l) := by
  have := fs_dOf n l (by have := h.le; omega)
  rwa [h.sn, h.sl] at this
theorem fv_Same : FS Try.prog 40 [dV n l, dV n l] (.bool true) := by
  have := fs_dSame n (toF n l) (toL n l) n (toF n l) (toL n l) (by have := dl_f h; omega) (by have := dl_v h; omega)
  rwa [decide_eq_true rfl, decide_eq_true rfl, decide_eq_true rfl] at this
end
theorem dNew_V (n : Int) : DV (clipN n) (List.replicate (wordsI (clipN n)) 0) (List.replicate (clipN n).toNat 0) = dV (clipN n) [] := by
  unfold dV
  have e1 : toF (clipN n) [] = List.replicate (wordsI (clipN n)) 0 := rfl
  have e2 : toL (clipN n) [] = List.replicate (clipN n).toNat 0 := by
    unfold toL
    refine (tab_ext (by simp) fun i hi => ?_).symm
    rw [List.getElem?_replicate, if_pos hi]; rfl
  rw [e1, e2]
theorem fv_New (n : Int) : FS Try.prog 25 [.int .i64 n] (dV (clipN n) []) := by rw [← dNew_V]; exact fs_dNew n
theorem okV_nil {n : Int} (h0 : 0 ≤ n) (h1 : n ≤ 4096) : OkV n [] := ⟨h0, h1, .nil, fun x hx => by cases hx⟩
theorem okV_70 : OkV 70 [(65, 9)] := ⟨by omega, by omega, List.pairwise_singleton _ _, fun x hx => by simp at hx; subst hx; exact ⟨by show (0 : Int) ≤ 65; omega, by show (65 : Int) < 70; omega⟩⟩
theorem I64c {n : Int} (h : (decide (-9223372036854775808 ≤ n) && decide (n ≤ 9223372036854775807)) = true) : I64 n := by
  rw [Bool.and_eq_true, decide_eq_true_eq, decide_eq_true_eq] at h; exact h

def ir_fretworklaw10_live : IR :=
(.seq (.reg (⟨(some 0), .mv (.c (.bool false)), none⟩ :: [])) (.seq (.reg (⟨(some 7), .call (.c (.fn 25 [])) [(.c (.int .i64 70))], none⟩ ::⟨(some 8), .call (.c (.fn 29 [])) [(.t 7), (.c (.int .i64 65)), (.c (.int .i64 9))], none⟩ ::⟨(some 1), .al [.int .i64 0, .nils, .nils], none⟩ ::⟨none, .st 3 (.t 1) (.t 8), none⟩ :: [])) (.seq (.reg (⟨(some 10), .ld 3 true (.t 1), none⟩ ::⟨(some 11), .call (.c (.fn 27 [])) [(.t 10), (.c (.int .i64 65))], none⟩ ::⟨(some 9), .mv (.t 11), none⟩ ::⟨(some 12), .ex 0 (.t 9), none⟩ ::⟨(some 13), .ex 1 (.t 9), none⟩ ::⟨(some 2), .mv (.t 12), none⟩ ::⟨(some 3), .mv (.t 13), none⟩ :: [])) (.seq (.reg (⟨(some 15), .ld 3 true (.t 1), none⟩ ::⟨(some 16), .call (.c (.fn 27 [])) [(.t 15), (.c (.int .i64 1))], none⟩ ::⟨(some 14), .mv (.t 16), none⟩ ::⟨(some 17), .ex 0 (.t 14), none⟩ ::⟨(some 18), .ex 1 (.t 14), none⟩ ::⟨(some 4), .mv (.t 17), none⟩ ::⟨(some 5), .mv (.t 18), none⟩ :: [])) (.seq (.reg (⟨(some 19), .ld 3 true (.t 1), none⟩ ::⟨(some 20), .call (.c (.fn 20 [])) [(.t 19)], none⟩ ::⟨(some 6), .al [.int .i64 0, .nils], none⟩ ::⟨none, .st 2 (.t 6) (.t 20), none⟩ :: [])) (.seq (.draw (⟨(some 21), .mv (.t 2), none⟩ ::⟨(some 22), .bin .eql (.t 21) (.c (.int .i64 9)), none⟩ ::⟨(some 23), .mv (.t 22), none⟩ ::⟨(some 24), .mv (.t 3), some (23, true)⟩ ::⟨(some 25), .pick (.t 23) (.t 24) (.c (.bool false)), none⟩ ::⟨(some 26), .mv (.t 25), none⟩ ::⟨(some 27), .mv (.t 5), some (26, true)⟩ ::⟨(some 28), .un .not (.t 27), some (26, true)⟩ ::⟨(some 29), .pick (.t 26) (.t 28) (.c (.bool false)), none⟩ ::⟨(some 30), .mv (.t 29), none⟩ ::⟨(some 31), .ld 3 true (.t 1), some (30, true)⟩ ::⟨(some 32), .call (.c (.fn 33 [])) [(.t 31)], some (30, true)⟩ ::⟨(some 33), .bin .eql (.t 32) (.c (.int .i64 1)), some (30, true)⟩ ::⟨(some 34), .pick (.t 30) (.t 33) (.c (.bool false)), none⟩ ::⟨(some 35), .mv (.t 34), none⟩ ::⟨(some 36), .fa 1 (.t 6), some (35, true)⟩ ::⟨(some 37), .ld 1 false (.t 36), some (35, true)⟩ ::⟨(some 38), .ln (.t 37), some (35, true)⟩ ::⟨(some 39), .bin .eql (.t 38) (.c (.int .i64 1)), some (35, true)⟩ ::⟨(some 40), .pick (.t 35) (.t 39) (.c (.bool false)), none⟩ ::⟨(some 41), .mv (.t 40), none⟩ ::⟨(some 42), .fa 0 (.t 6), some (41, true)⟩ ::⟨(some 43), .ld 1 false (.t 42), some (41, true)⟩ ::⟨(some 44), .bin .eql (.t 43) (.c (.int .i64 70)), some (41, true)⟩ ::⟨(some 45), .pick (.t 41) (.t 44) (.c (.bool false)), none⟩ ::⟨(some 46), .mv (.t 45), none⟩ ::⟨(some 47), .ld 2 true (.t 6), some (46, true)⟩ ::⟨(some 48), .call (.c (.fn 23 [])) [(.t 47)], some (46, true)⟩ ::⟨(some 49), .ld 3 true (.t 1), some (46, true)⟩ ::⟨(some 50), .call (.c (.fn 40 [])) [(.t 48), (.t 49)], some (46, true)⟩ ::⟨(some 51), .pick (.t 46) (.t 50) (.c (.bool false)), none⟩ ::⟨(some 52), .mv (.t 51), none⟩ ::⟨(some 53), .ld 3 true (.t 1), some (52, true)⟩ ::⟨(some 54), .call (.c (.fn 17 [])) [(.t 53)], some (52, true)⟩ ::⟨(some 55), .pick (.t 52) (.t 54) (.c (.bool false)), none⟩ ::⟨(some 56), .mv (.t 55), none⟩ ::⟨(some 57), .bld [.int .i64 0, .nils, .nils] [(0, 1, (.c (.int .i64 1)))], some (56, true)⟩ ::⟨(some 58), .call (.c (.fn 17 [])) [(.t 57)], some (56, true)⟩ ::⟨(some 59), .un .not (.t 58), some (56, true)⟩ ::⟨(some 60), .pick (.t 56) (.t 59) (.c (.bool false)), none⟩ ::⟨(some 61), .mv (.t 60), none⟩ ::⟨(some 62), .ld 3 true (.t 1), some (61, true)⟩ ::⟨(some 63), .call (.c (.fn 31 [])) [(.t 62), (.c (.int .i64 65))], some (61, true)⟩ ::⟨(some 64), .call (.c (.fn 33 [])) [(.t 63)], some (61, true)⟩ ::⟨(some 65), .bin .eql (.t 64) (.c (.int .i64 0)), some (61, true)⟩ ::⟨(some 66), .pick (.t 61) (.t 65) (.c (.bool false)), none⟩ ::⟨(some 67), .mv (.t 66), none⟩ ::⟨(some 68), .ld 3 true (.t 1), some (67, true)⟩ ::⟨(some 69), .call (.c (.fn 35 [])) [(.t 68), (.c (.nils))], some (67, true)⟩ ::⟨(some 70), .call (.c (.fn 33 [])) [(.t 69)], some (67, true)⟩ ::⟨(some 71), .bin .eql (.t 70) (.c (.int .i64 0)), some (67, true)⟩ ::⟨(some 72), .pick (.t 67) (.t 71) (.c (.bool false)), none⟩ ::⟨(some 73), .mv (.t 72), none⟩ ::⟨(some 74), .ld 3 true (.t 1), some (73, true)⟩ ::⟨(some 75), .call (.c (.fn 37 [])) [(.t 74), (.c (.int .i64 60)), (.c (.int .i64 70))], some (73, true)⟩ ::⟨(some 76), .fd 0 1 false (.t 75), some (73, true)⟩ ::⟨(some 77), .bin .eql (.t 76) (.c (.int .i64 10)), some (73, true)⟩ ::⟨(some 78), .pick (.t 73) (.t 77) (.c (.bool false)), none⟩ ::⟨(some 79), .mv (.t 78), none⟩ ::⟨(some 80), .ld 3 true (.t 1), some (79, true)⟩ ::⟨(some 81), .call (.c (.fn 25 [])) [(.c (.int .i64 70))], some (79, true)⟩ :: []) (⟨(some 82), .call (.c (.fn 40 [])) [(.t 80), (.t 81)], some (79, true)⟩ ::⟨(some 83), .un .not (.t 82), some (79, true)⟩ ::⟨(some 84), .pick (.t 79) (.t 83) (.c (.bool false)), none⟩ ::⟨(some 0), .mv (.t 84), none⟩ :: [])) .ret))))))
theorem cd_fretworklaw10_live : Code1 Try.prog 15 85 ir_fretworklaw10_live [.t 0] := ⟨Try.call15, _, _, Try.func15, rfl, by kernel_rfl, by kernel_rfl, by kernel_rfl, by kernel_rfl⟩

set_option maxHeartbeats 8000000 in
set_option maxRecDepth 100000 in
theorem fs_live10 : FS Try.prog 15 [] (.bool true) := by
  have h0 := okV_nil (n := 70) (by omega) (by omega)
  have h := okV_70
  have c1 := fv_New 70
  rw [show clipN 70 = 70 by kernel_rfl] at c1
  have c2 := fv_Set h0 65 9 (I64c rfl)
  rw [show putR 70 [] 65 9 = [(65, 9)] by kernel_rfl] at c2
  have c3 := fv_Get h 65 (I64c rfl)
  rw [show gt [(65, 9)] 65 = some 9 by kernel_rfl] at c3
  have c4 := fv_Get h 1 (I64c rfl)
  rw [show gt [(65, 9)] 1 = none by kernel_rfl] at c4
  have c5 := fv_Back h
  have c6 := fv_Count h
  have c7 := fv_Of h
  have c8 := fv_Same h
  have c9 := fv_Right h
  have c10 := fs_dRight 1 [] [] (I64c rfl) (by intro x hx; cases hx) (by simp) (by simp)
  rw [show dR 1 [] [] = false by kernel_rfl] at c10
  have c10' : FS Try.prog 17 [.agg [.int .i64 1, .nils, .nils]] (.bool false) := fs_le c10 ⟨⟨rfl, rfl, rfl, trivial⟩, trivial⟩
  have c11 := fv_Drop h 65 (I64c rfl)
  rw [show rest (fun y => decide (y.1 = 65)) [((65 : Int), (9 : Int))] = [] by kernel_rfl] at c11
  have c12 := fv_Count h0
  have c13 := fv_Only h [] (by intro x hx; cases hx) (by simp)
  rw [show ([((65 : Int), (9 : Int))] : List (Int × Int)).filter (fun x => hasI [] x.1) = [] by kernel_rfl] at c13
  have c13' : FS Try.prog 35 [dV 70 [(65, 9)], .nils] (dV 70 []) := fs_le c13 ⟨rfl, rfl, trivial⟩
  have c14 := fv_Part h 60 70 (I64c rfl) (I64c rfl)
  rw [show ptR 70 [(65, 9)] 60 70 = (10, [(5, 9)]) by kernel_rfl] at c14
  have c15 := fs_dSame 70 (toF 70 [(65, 9)]) (toL 70 [(65, 9)]) 70 (toF 70 []) (toL 70 []) (by have := dl_f h; omega) (by have := dl_v h; omega)
  rw [show (decide ((70 : Int) = 70) && (decide (toF 70 [(65, 9)] = toF 70 []) && decide (toL 70 [(65, 9)] = toL 70 []))) = false by kernel_rfl] at c15
  have c15' : FS Try.prog 40 [dV 70 [(65, 9)], dV 70 []] (.bool false) := c15
  refine fs_of_cvc mixed cd_fretworklaw10_live (by simp) ?_
  unfold dV at *
  generalize toF 70 [(65, 9)] = F1 at *
  generalize toL 70 [(65, 9)] = L1 at *
  generalize toF 70 [] = F0 at *
  generalize toL 70 [] = L0 at *
  generalize toF (10, [(5, 9)]).1 _ = F2 at *
  generalize toL (10, [(5, 9)]).1 _ = L2 at *
  repeat' (conv => whnf); first
    | ((refine Or.inl ⟨by rfl, _, c1, ?_⟩))
    | ((refine Or.inl ⟨by rfl, _, c2, ?_⟩))
    | ((refine Or.inl ⟨by rfl, _, c3, ?_⟩))
    | ((refine Or.inl ⟨by rfl, _, c4, ?_⟩))
    | ((refine Or.inl ⟨by rfl, _, c5, ?_⟩))
    | ((refine Or.inl ⟨by rfl, _, c6, ?_⟩))
    | ((refine Or.inl ⟨by rfl, _, c7, ?_⟩))
    | ((refine Or.inl ⟨by rfl, _, c8, ?_⟩))
    | ((refine Or.inl ⟨by rfl, _, c9, ?_⟩))
    | ((refine Or.inl ⟨by rfl, _, c10', ?_⟩))
    | ((refine Or.inl ⟨by rfl, _, c11, ?_⟩))
    | ((refine Or.inl ⟨by rfl, _, c12, ?_⟩))
    | ((refine Or.inl ⟨by rfl, _, c13', ?_⟩))
    | ((refine Or.inl ⟨by rfl, _, c14, ?_⟩))
    | ((refine Or.inl ⟨by rfl, _, c15', ?_⟩))
    | ((refine Br.beq (by rfl) ?_))
    | ((refine Br.bne (by rfl) ?_))
    | ((refine And.intro (Or.inl (Nat.zero_le _)) ?_))
    | ((refine And.intro (show _ ≤ _ from Nat.le_of_ble_eq_true rfl) ?_))
    | (refine Br.tt ?_)
    | (refine Br.ff ?_)
    | (refine Br.dec (fun h => ?_) (fun h => ?_)) <;> try (exfalso; omega)
    | (refine Br.neg ?_)
    | (refine Br.mk (fun h => ?_) (fun h => ?_))
    | (refine And.intro rfl ?_)
    | (refine And.intro (by omega) ?_)
    | (refine ⟨_, Or.inl ⟨⟨by omega, by omega⟩, rfl⟩, ?_⟩)
    | (refine And.intro (by simp only [lens_all, U_len, zs_len, its_len, ints_len]; first | done | omega) ?_)
    | (refine And.intro (Nat.le_refl _) ?_)
    | fail
  all_goals exact rfl
end
section
open Go.RowKit
attribute [local irreducible] FS FO IT HS
end
section
open Go.RowKit
attribute [local irreducible] FS FO IT HS

theorem its_loose1 (l : List (Int × Int)) : ∀ b ∈ [Blk.arr 2 (its l)], Blk.loose b := fun b hb => by
  simp at hb
  subst hb
  exact its_loose l
/-- The first k items turned. -/
def mapK (f : Int × Int → Int × Int) (a : List (Int × Int)) (k : Nat) : List (Int × Int) := (a.take k).map f ++ a.drop k
theorem mapK_zero (f : Int × Int → Int × Int) (a : List (Int × Int)) : mapK f a 0 = a := by simp [mapK]
theorem mapK_all (f : Int × Int → Int × Int) (a : List (Int × Int)) : mapK f a a.length = a.map f := by simp [mapK]
theorem mapK_len (f : Int × Int → Int × Int) (a : List (Int × Int)) (k : Nat) : (mapK f a k).length = a.length := by simp [mapK]; omega
theorem mapK_at {f : Int × Int → Int × Int} {a : List (Int × Int)} {k : Nat} {x : Int × Int} (h : a[k]? = some x) : (mapK f a k)[k]? = some x := by
  have hk := (List.getElem?_eq_some_iff.1 h).1
  unfold mapK
  rw [List.getElem?_append_right (by simp; omega), List.getElem?_drop, show k + (k - ((a.take k).map f).length) = k by simp; omega, h]
theorem mapK_set {f : Int × Int → Int × Int} {a : List (Int × Int)} {k : Nat} {x : Int × Int} (h : a[k]? = some x) : (mapK f a k).set k (f x) = mapK f a (k + 1) := by
  obtain ⟨hk, he⟩ := List.getElem?_eq_some_iff.1 h
  unfold mapK
  rw [List.set_append_right _ _ (by simp; omega), show k - ((a.take k).map f).length = 0 by simp; omega, List.drop_eq_getElem_cons hk, vtk_more h, List.map_append, List.append_assoc]
  rfl

def ir_spvec_each : IR :=
(.seq (.reg (⟨(some 2), .bx (.t 0), none⟩ ::⟨(some 4), .al [.int .i64 0, .nils], none⟩ :: [])) (.seq (.reg (⟨(some 8), .ld 2 true (.t 2), none⟩ ::⟨(some 9), .call (.c (.fn 89 [])) [(.t 8)], none⟩ ::⟨none, .st 2 (.t 2) (.t 9), none⟩ :: [])) (.seq (.draw (⟨(some 10), .fa 0 (.t 2), none⟩ ::⟨(some 11), .ld 1 false (.t 10), none⟩ ::⟨(some 12), .fa 1 (.t 2), none⟩ ::⟨(some 13), .ld 1 false (.t 12), none⟩ ::⟨(some 14), .call (.c (.fn 96 [])) [(.t 13)], none⟩ ::⟨(some 15), .bld [.int .i64 0, .nils] [(0, 1, (.t 11)), (1, 1, (.t 14))], none⟩ ::⟨(some 5), .al [.int .i64 0, .nils], none⟩ :: []) (⟨none, .st 2 (.t 5) (.t 15), none⟩ :: [])) (.seq (.seq (.reg (⟨(some 16), .fa 1 (.t 5), none⟩ ::⟨(some 17), .ld 1 false (.t 16), none⟩ ::⟨(some 18), .ln (.t 17), none⟩ ::⟨(some 19), .mv (.c (.int .i64 0)), none⟩ :: [])) (.block 0 (.loop (.seq (.reg (⟨(some 20), .bin .lss (.t 19) (.t 18), none⟩ :: [])) (.seq (.cond (.t 20) .skip (.exit 0)) (.seq (.block 1 (.seq (.reg (⟨(some 21), .mv (.t 19), none⟩ ::⟨(some 22), .ia 2 (.t 17) (.t 19), none⟩ ::⟨(some 23), .ld 2 true (.t 22), none⟩ ::⟨(some 7), .al [.int .i64 0, .int .i64 0], none⟩ ::⟨(some 6), .mv (.t 21), none⟩ ::⟨none, .st 2 (.t 7) (.t 23), none⟩ :: [])) (.draw (⟨(some 24), .fa 1 (.t 5), none⟩ ::⟨(some 25), .ld 1 false (.t 24), none⟩ ::⟨(some 26), .mv (.t 6), none⟩ ::⟨(some 27), .mv (.t 1), none⟩ ::⟨(some 28), .ld 2 true (.t 7), none⟩ ::⟨(some 29), .call (.t 27) [(.t 28)], none⟩ :: []) (⟨(some 30), .ia 2 (.t 25) (.t 26), none⟩ ::⟨none, .st 2 (.t 30) (.t 29), none⟩ :: [])))) (.reg (⟨(some 31), .bin .add (.t 19) (.c (.int .i64 1)), none⟩ ::⟨(some 19), .mv (.t 31), none⟩ :: [])))))))) (.seq (.reg (⟨(some 32), .ld 2 true (.t 5), none⟩ ::⟨none, .st 2 (.t 4) (.t 32), none⟩ :: [])) .ret)))))
theorem cd_spvec_each : Code1 Try.prog 91 33 ir_spvec_each [.c 2 true 4] := ⟨Try.call91, _, _, Try.func91, rfl, by kernel_rfl, by kernel_rfl, by kernel_rfl, by kernel_rfl⟩

set_option maxHeartbeats 4000000 in
theorem fo_each (n : Int) (l : List (Int × Int)) (hl : l.length ≤ 400000000) (g : FuncId) (caps : List SV) (f : Int × Int → Int × Int) (hpc : SV.pure.pureL caps = true) (hp : ∀ x ∈ sl n l, FS Try.prog g (.agg [.int .i64 x.1, .int .i64 x.2] :: caps) (.agg [.int .i64 (f x).1, .int .i64 (f x).2])) :
    FO Try.prog 91 [VC n l, .fn g caps] (.agg [.int .i64 (sn n l), .osl 0 2 0 (sl n l).length]) [.arr 2 (its ((sl n l).map f))] := by
  refine fo_of_cvc mixed cd_spvec_each (by simp) ?_
  have c1 := fs_vsure n l (by omega)
  have s1 := sl_len n l
  generalize sn n l = N at *
  generalize sl n l = a at *
  have hal := its_len a
  have c2 := fo_vClone a (by omega)
  repeat' (conv => whnf); first
    | ((refine Or.inl ⟨by rfl, _, c1, ?_⟩))
    | ((refine Or.inr (Or.inl ⟨by rfl, _, _, c2, ?_⟩)))
    | ((refine Br.beq (by rfl) ?_))
    | ((refine Br.bne (by rfl) ?_))
    | ((refine And.intro (Or.inl (Nat.zero_le _)) ?_))
    | ((refine And.intro (show _ ≤ _ from Nat.le_of_ble_eq_true rfl) ?_))
    | (refine Br.tt ?_)
    | (refine Br.ff ?_)
    | (refine Br.dec (fun h => ?_) (fun h => ?_)) <;> try (exfalso; omega)
    | (refine Br.neg ?_)
    | (refine Br.mk (fun h => ?_) (fun h => ?_))
    | (refine And.intro rfl ?_)
    | (refine And.intro (by omega) ?_)
    | (refine ⟨_, Or.inl ⟨⟨by omega, by omega⟩, rfl⟩, ?_⟩)
    | (refine And.intro (by simp only [lens_all, its_len]; first | done | omega) ?_)
    | (refine And.intro (Nat.le_refl _) ?_)
    | fail
  refine ⟨Nat, fun j => j ≤ a.length, fun j => [(1, .fn g caps), (4, .ptr 1 0 0 0), (5, .ptr 3 0 0 0), (17, .osl 2 2 0 a.length), (18, .int .i64 (a.length : Int)), (19, .int .i64 (j : Int))], fun j => [.vars [.int .i64 N, IL a], .vars [.int .i64 0, .nils], .arr 2 (its (mapK f a j)), .vars [.int .i64 N, .osl 2 2 0 a.length]], fun _ => none, fun j => a.length - j,
    ⟨0, Nat.zero_le _, ⟨rfl, rfl, rfl, rfl, rfl, rfl, trivial⟩, ⟨⟨rfl, rfl, trivial⟩, ⟨rfl, rfl, trivial⟩, ?_, ⟨rfl, rfl, trivial⟩, trivial⟩, rfl⟩, fun j hj => ?_⟩
  · exact congrArg (fun l => Blk.arr 2 (its l)) (mapK_zero f a).symm
  have hj : j ≤ a.length := hj
  have hml := mapK_len f a j
  have hil := its_len (mapK f a j)
  by_cases hja : j < a.length
  · obtain ⟨x, hx⟩ : ∃ x, a[j]? = some x := ⟨_, List.getElem?_eq_getElem hja⟩
    have c3 := hp x (List.mem_of_getElem? hx)
    have hq := its_one (q := 0 + (j : Int).toNat) (by rw [show 0 + (j : Int).toNat = j by omega]; exact mapK_at (f := f) hx)
    have hpu : SV.pure.pureL (.agg [.int .i64 x.1, .int .i64 x.2] :: caps) = true := by simp [SV.pure.pureL, SV.pure, hpc]
    have hbe : ∀ n, (SV.bnd.bndL n caps && true) = true := fun n => by rw [bnd_pure.bndL_pure n caps hpc]; rfl
    repeat' (conv => whnf); first
      | ((refine ⟨_, hq, ?_⟩))
      | ((refine Or.inl ⟨hpu, _, c3, ?_⟩))
      | ((refine Br.beq (by rfl) ?_))
      | ((refine Br.bne (by rfl) ?_))
      | ((refine And.intro (Or.inl (Nat.zero_le _)) ?_))
      | ((refine And.intro (show _ ≤ _ from Nat.le_of_ble_eq_true rfl) ?_))
      | (refine Br.tt ?_)
      | (refine Br.ff ?_)
      | (refine Br.dec (fun h => ?_) (fun h => ?_)) <;> try (exfalso; omega)
      | (refine Br.neg ?_)
      | (refine Br.mk (fun h => ?_) (fun h => ?_))
      | (refine And.intro rfl ?_)
      | (refine And.intro (by omega) ?_)
      | (refine ⟨_, Or.inl ⟨⟨by omega, by omega⟩, rfl⟩, ?_⟩)
      | (refine And.intro (by simp only [lens_all, its_len]; first | done | omega) ?_)
      | (refine And.intro (Nat.le_refl _) ?_)
      | fail
    refine ⟨j + 1, (show j + 1 ≤ a.length by omega), (show a.length - (j + 1) < a.length - j by omega), ⟨rfl, rfl, rfl, rfl, rfl, rfl, trivial⟩, ⟨⟨rfl, rfl, trivial⟩, ⟨rfl, rfl, trivial⟩, ?_, ⟨rfl, rfl, trivial⟩, ⟨Nat.le_refl _, hbe 4, rfl⟩⟩, rfl⟩
    show Blk.arr 2 ((its (mapK f a j)).set (0 + (j : Int).toNat) [.int .i64 (f x).1, .int .i64 (f x).2]) = _
    rw [show 0 + (j : Int).toNat = j by omega, its_set, show ((f x).1, (f x).2) = f x from rfl, mapK_set hx]
  · obtain rfl : j = a.length := by omega
    repeat' (conv => whnf); first
      | ((refine Br.beq (by rfl) ?_))
      | ((refine Br.bne (by rfl) ?_))
      | ((refine And.intro (Or.inl (Nat.zero_le _)) ?_))
      | ((refine And.intro (show _ ≤ _ from Nat.le_of_ble_eq_true rfl) ?_))
      | (refine Br.tt ?_)
      | (refine Br.ff ?_)
      | (refine Br.dec (fun h => ?_) (fun h => ?_)) <;> try (exfalso; omega)
      | (refine Br.neg ?_)
      | (refine Br.mk (fun h => ?_) (fun h => ?_))
      | (refine And.intro rfl ?_)
      | (refine And.intro (by omega) ?_)
      | (refine ⟨_, Or.inl ⟨⟨by omega, by omega⟩, rfl⟩, ?_⟩)
      | (refine And.intro (by simp only [lens_all, its_len]; first | done | omega) ?_)
      | (refine And.intro (Nat.le_refl _) ?_)
      | fail
    rw [mapK_all]
    exact Or.inr (Or.inr (FoS.one 2 (MatL.agg (.cons (.same _ rfl) (.cons (.osl 0 2 2 0 _ rfl) .nil))) rfl rfl))

def ir_spvec_Part_1 : IR :=
(.seq (.reg (⟨(some 2), .bx (.t 0), none⟩ ::⟨(some 3), .al [.int .i64 0, .int .i64 0], none⟩ :: [])) (.seq (.reg (⟨(some 4), .fa 0 (.t 2), none⟩ ::⟨(some 5), .ld 1 false (.t 4), none⟩ ::⟨(some 6), .ld 1 false (.t 1), none⟩ ::⟨(some 7), .bin .sub (.t 5) (.t 6), none⟩ ::⟨(some 8), .fa 1 (.t 2), none⟩ ::⟨(some 9), .ld 1 false (.t 8), none⟩ ::⟨(some 10), .bld [.int .i64 0, .int .i64 0] [(0, 1, (.t 7)), (1, 1, (.t 9))], none⟩ ::⟨none, .st 2 (.t 3) (.t 10), none⟩ :: [])) .ret))
theorem cd_spvec_Part_1 : Code1 Try.prog 92 11 ir_spvec_Part_1 [.c 2 true 3] := ⟨Try.call92, _, _, Try.func92, rfl, by kernel_rfl, by kernel_rfl, by kernel_rfl, by kernel_rfl⟩

theorem fs_part1 (a : Int) (x : Int × Int) (h1 : I64 x.1) (h : I64 (x.1 - a)) : FS Try.prog 92 [.agg [.int .i64 x.1, .int .i64 x.2], .box [.int .i64 a] 0] (.agg [.int .i64 (x.1 - a), .int .i64 x.2]) := by
  refine fs_of_cvc mixed cd_spvec_Part_1 (by simp) ?_
  obtain ⟨x, y⟩ := x
  unfold I64 at h1 h
  simp only at h1 h ⊢
  repeat' (conv => whnf); first
    | ((refine Br.beq (by rfl) ?_))
    | ((refine Br.bne (by rfl) ?_))
    | ((refine And.intro (Or.inl (Nat.zero_le _)) ?_))
    | ((refine And.intro (show _ ≤ _ from Nat.le_of_ble_eq_true rfl) ?_))
    | (refine Br.tt ?_)
    | (refine Br.ff ?_)
    | (refine Br.dec (fun h => ?_) (fun h => ?_)) <;> try (exfalso; omega)
    | (refine Br.neg ?_)
    | (refine Br.mk (fun h => ?_) (fun h => ?_))
    | (refine And.intro rfl ?_)
    | (refine And.intro (by omega) ?_)
    | (refine ⟨_, Or.inl ⟨⟨by omega, by omega⟩, rfl⟩, ?_⟩)
    | (refine And.intro (by simp only [lens_all, its_len]; first | done | omega) ?_)
    | (refine And.intro (Nat.le_refl _) ?_)
    | fail
  first | exact rfl | exact ⟨⟨rfl, rfl, trivial⟩, trivial⟩

theorem take_pos (b : Int) : ∀ l : List (Int × Int), Up l → l.take (posI l b) = l.filter fun x => decide (x.1 < b)
  | [], _ => rfl
  | x :: l, hu => by
    rw [posI_cons, List.filter_cons]
    have hh := hu.head
    by_cases h : b ≤ x.1
    · rw [if_pos h, if_neg (by simp; omega), List.filter_eq_nil_iff.2 fun y hy => by have := hh y hy; simp; omega]; rfl
    · rw [if_neg h, if_pos (decide_eq_true (by omega)), List.take_succ_cons, take_pos b l hu.tail]
theorem cut_pos {a b : Int} (hab : a ≤ b) : ∀ l : List (Int × Int), Up l → posI l a ≤ posI l b ∧ (l.drop (posI l a)).take (posI l b - posI l a) = l.filter fun x => decide (a ≤ x.1) && decide (x.1 < b)
  | [], _ => ⟨Nat.le_refl _, rfl⟩
  | x :: l, hu => by
    rw [posI_cons, posI_cons, List.filter_cons]
    have hh := hu.head
    by_cases hb : b ≤ x.1
    · rw [if_pos hb, if_pos (by omega), if_neg (by simp; omega), List.filter_eq_nil_iff.2 fun y hy => by have := hh y hy; simp; omega]
      exact ⟨Nat.le_refl _, rfl⟩
    · by_cases ha : a ≤ x.1
      · rw [if_neg hb, if_pos ha, if_pos (by simp; omega)]
        refine ⟨Nat.zero_le _, ?_⟩
        rw [List.drop_zero, Nat.sub_zero, List.take_succ_cons, take_pos b l hu.tail]
        refine congrArg (x :: ·) (List.filter_congr fun y hy => ?_)
        have := hh y hy
        rw [decide_eq_true (show a ≤ y.1 by omega), Bool.true_and]
      · obtain ⟨i1, i2⟩ := cut_pos hab l hu.tail
        rw [if_neg hb, if_neg ha, if_neg (by simp; omega), List.drop_succ_cons, Nat.add_sub_add_right]
        exact ⟨by omega, i2⟩

def ir_spvec_Part : IR :=
(.seq (.reg (⟨(some 3), .bx (.t 0), none⟩ ::⟨(some 4), .bx (.t 1), none⟩ ::⟨(some 6), .al [.int .i64 0, .nils], none⟩ :: [])) (.seq (.reg (⟨(some 13), .ld 2 true (.t 3), none⟩ ::⟨(some 14), .call (.c (.fn 89 [])) [(.t 13)], none⟩ ::⟨none, .st 2 (.t 3) (.t 14), none⟩ :: [])) (.seq (.drawL (⟨(some 15), .ld 1 false (.t 4), none⟩ ::⟨(some 16), .mm true [(.t 15), (.c (.int .i64 0))], none⟩ ::⟨(some 17), .mv (.t 2), none⟩ ::⟨(some 18), .fa 0 (.t 3), none⟩ ::⟨(some 19), .ld 1 false (.t 18), none⟩ ::⟨(some 20), .mm false [(.t 17), (.t 19)], none⟩ :: []) (⟨(some 17), .mv (.t 2), none⟩ ::⟨(some 18), .fa 0 (.t 3), none⟩ ::⟨(some 19), .ld 1 false (.t 18), none⟩ ::⟨(some 20), .mm false [(.t 17), (.t 19)], none⟩ :: []) (⟨none, .st 1 (.t 4) (.t 16), none⟩ :: []) (⟨(some 2), .mv (.t 20), none⟩ :: [])) (.seq (.seq (.reg (⟨(some 21), .mv (.t 2), none⟩ ::⟨(some 22), .ld 1 false (.t 4), none⟩ ::⟨(some 23), .bin .leq (.t 21) (.t 22), none⟩ :: [])) (.cond (.t 23) (.seq (.reg (⟨(some 24), .bld [.int .i64 0, .nils] [], none⟩ ::⟨none, .st 2 (.t 6) (.t 24), none⟩ :: [])) .ret) .skip)) (.seq (.reg (⟨(some 26), .ld 2 true (.t 3), none⟩ ::⟨(some 27), .ld 1 false (.t 4), none⟩ ::⟨(some 28), .call (.c (.fn 90 [])) [(.t 26), (.t 27)], none⟩ ::⟨(some 25), .mv (.t 28), none⟩ ::⟨(some 29), .ex 0 (.t 25), none⟩ ::⟨(some 30), .ex 1 (.t 25), none⟩ ::⟨(some 7), .mv (.t 29), none⟩ ::⟨(some 8), .mv (.t 30), none⟩ :: [])) (.seq (.reg (⟨(some 32), .ld 2 true (.t 3), none⟩ ::⟨(some 33), .mv (.t 2), none⟩ ::⟨(some 34), .call (.c (.fn 90 [])) [(.t 32), (.t 33)], none⟩ ::⟨(some 31), .mv (.t 34), none⟩ ::⟨(some 35), .ex 0 (.t 31), none⟩ ::⟨(some 36), .ex 1 (.t 31), none⟩ ::⟨(some 9), .mv (.t 35), none⟩ ::⟨(some 10), .mv (.t 36), none⟩ :: [])) (.seq (.draw (⟨(some 37), .fa 0 (.t 3), none⟩ ::⟨(some 38), .ld 1 false (.t 37), none⟩ ::⟨(some 39), .fa 1 (.t 3), none⟩ ::⟨(some 40), .ld 1 false (.t 39), none⟩ ::⟨(some 41), .mv (.t 7), none⟩ ::⟨(some 42), .mv (.t 9), none⟩ ::⟨(some 43), .sl 2 (.t 40) (some (.t 41)) (some (.t 42)) none, none⟩ ::⟨(some 44), .bld [.int .i64 0, .nils] [(0, 1, (.t 38)), (1, 1, (.t 43))], none⟩ ::⟨(some 11), .al [.int .i64 0, .nils], none⟩ :: []) (⟨none, .st 2 (.t 11) (.t 44), none⟩ :: [])) (.seq (.reg (⟨(some 45), .ld 2 true (.t 11), none⟩ ::⟨(some 46), .fn 92 [(.t 4)], none⟩ ::⟨(some 47), .call (.c (.fn 91 [])) [(.t 45), (.t 46)], none⟩ ::⟨(some 12), .al [.int .i64 0, .nils], none⟩ ::⟨none, .st 2 (.t 12) (.t 47), none⟩ :: [])) (.seq (.reg (⟨(some 48), .mv (.t 2), none⟩ ::⟨(some 49), .ld 1 false (.t 4), none⟩ ::⟨(some 50), .bin .sub (.t 48) (.t 49), none⟩ ::⟨(some 51), .fa 0 (.t 12), none⟩ ::⟨none, .st 1 (.t 51) (.t 50), none⟩ :: [])) (.seq (.reg (⟨(some 52), .ld 2 true (.t 12), none⟩ ::⟨none, .st 2 (.t 6) (.t 52), none⟩ :: [])) .ret))))))))))
theorem cd_spvec_Part : Code1 Try.prog 42 53 ir_spvec_Part [.c 2 true 6] := ⟨Try.call42, _, _, Try.func42, rfl, by kernel_rfl, by kernel_rfl, by kernel_rfl, by kernel_rfl⟩

set_option maxHeartbeats 4000000 in
theorem fs_vPart (n : Int) (l : List (Int × Int)) (p q : Int) (hl : l.length ≤ 400000000) (_hp : I64 p) (_hq : I64 q) : FS Try.prog 42 [VC n l, .int .i64 p, .int .i64 q] (VC (ptR (sn n l) (sl n l) p q).1 (ptR (sn n l) (sl n l) p q).2) := by
  refine fs_of_cvc mixed cd_spvec_Part (by simp) ?_
  have c1 := fs_vsure n l (by omega)
  have hok := okV n l
  have s1 := sl_len n l
  generalize sn n l = N at *
  generalize sl n l = A at *
  have hal := its_len A
  have hn0 := hok.n0
  have hn1 := hok.n1
  obtain ⟨t, ht⟩ : ∃ t, ptR N A p q = t := ⟨_, rfl⟩
  rw [ht]
  unfold ptR at ht
  by_cases h : min q N ≤ max p 0
  · rw [if_pos h] at ht
    subst ht
    repeat' (conv => whnf); first
      | ((refine Or.inl ⟨by rfl, _, c1, ?_⟩))
      | ((refine ex_but 1 ?_; refine And.intro ?_ ?_; focus ((repeat' (first | exact trivial | exact rfl | (refine And.intro ?_ ?_) | omega | ((conv => whnf); first | exact trivial | exact rfl | (refine And.intro ?_ ?_)))); done)))
      | ((exact rfl))
      | ((exact trivial))
      | ((refine And.intro ?_ ?_; focus ((repeat' (first | exact trivial | exact rfl | (refine And.intro ?_ ?_) | omega | ((conv => whnf); first | exact trivial | exact rfl | (refine And.intro ?_ ?_)))); done)))
      | ((refine Br.beq (by rfl) ?_))
      | ((refine Br.bne (by rfl) ?_))
      | ((refine And.intro (Or.inl (Nat.zero_le _)) ?_))
      | ((refine And.intro (show _ ≤ _ from Nat.le_of_ble_eq_true rfl) ?_))
      | (refine Br.tt ?_)
      | (refine Br.ff ?_)
      | (refine Br.dec (fun h => ?_) (fun h => ?_)) <;> try (exfalso; omega)
      | (refine Br.neg ?_)
      | (refine Br.mk (fun h => ?_) (fun h => ?_))
      | (refine And.intro rfl ?_)
      | (refine And.intro (by omega) ?_)
      | (refine ⟨_, Or.inl ⟨⟨by omega, by omega⟩, rfl⟩, ?_⟩)
      | (refine And.intro (by simp only [lens_all, its_len]; first | done | omega) ?_)
      | (refine And.intro (Nat.le_refl _) ?_)
      | fail
    all_goals first | exact rfl | exact trivial | exact ⟨rfl, trivial⟩
  · rw [if_neg h] at ht
    subst ht
    obtain ⟨i1, i2⟩ := cut_pos (a := max p 0) (b := min q N) (by omega) A hok.up
    have q1 := posI_le A (min q N)
    obtain ⟨cut, hcut⟩ : ∃ c, (A.filter fun x => decide (max p 0 ≤ x.1) && decide (x.1 < min q N)) = c := ⟨_, rfl⟩
    have hcm : ∀ x ∈ cut, x ∈ A ∧ max p 0 ≤ x.1 ∧ x.1 < min q N := fun x hx => by
      rw [← hcut, List.mem_filter, Bool.and_eq_true, decide_eq_true_eq, decide_eq_true_eq] at hx
      exact ⟨hx.1, hx.2.1, hx.2.2⟩
    have hoc : OkV N cut := ⟨hok.n0, hok.n1, by rw [← hcut]; exact hok.up.filter _, fun x hx => hok.lo x (hcm x hx).1⟩
    have hcl : cut.length ≤ A.length := by rw [← hcut]; exact List.length_filter_le _ _
    have c2 := fs_find N A (max p 0) (by omega) hok.up
    have c3 := fs_find N A (min q N) (by omega) hok.up
    have c4 := fo_each N cut (by omega) 92 [.box [.int .i64 (max p 0)] 0] (fun x => (x.1 - max p 0, x.2)) rfl fun x hx => by
      rw [hoc.sl] at hx
      have h1 := hok.lo x (hcm x hx).1
      have h2 := hcm x hx
      exact fs_part1 _ x (by unfold I64; omega) (by unfold I64; omega)
    rw [hoc.sn, hoc.sl] at c4
    have e : List.drop ((posI A (max p 0) : Nat) : Int).toNat (List.take ((posI A (min q N) : Nat) : Int).toNat (its A)) = its cut := by
      unfold its
      rw [Int.toNat_natCast, Int.toNat_natCast, List.drop_take, ← List.map_drop, ← List.map_take, i2, hcut]
    replace c4 : FO Try.prog 91 [.agg [.int .i64 N, .slc 2 (List.drop ((posI A (max p 0) : Nat) : Int).toNat (List.take ((posI A (min q N) : Nat) : Int).toNat (its A)))], .fn 92 [.box [.int .i64 (max p 0)] 0]] (.agg [.int .i64 N, .osl 0 2 0 cut.length]) [.arr 2 (its (cut.map fun x => (x.1 - max p 0, x.2)))] := by
      rw [e]; exact c4
    have e2 : ptI (max p 0) (min q N) A = cut.map fun x => (x.1 - max p 0, x.2) := by unfold ptI; rw [hcut]
    rw [e2]
    generalize posI A (max p 0) = i at *
    generalize posI A (min q N) = j at *
    repeat' (conv => whnf); first
      | ((refine Or.inl ⟨by rfl, _, c1, ?_⟩))
      | ((refine Or.inl ⟨by rfl, _, c2, ?_⟩))
      | ((refine Or.inl ⟨by rfl, _, c3, ?_⟩))
      | ((refine Or.inr (Or.inr (Or.inr (Or.inr (Or.inl ?_)))); (conv => whnf); refine ⟨_, _, c4, rfl, its_loose1 _, ?_⟩))
      | ((refine ex_but 1 ?_; refine And.intro ?_ ?_; focus ((repeat' (first | exact trivial | exact rfl | (refine And.intro ?_ ?_) | omega | ((conv => whnf); first | exact trivial | exact rfl | (refine And.intro ?_ ?_)))); done)))
      | ((exact rfl))
      | ((exact trivial))
      | ((refine And.intro ?_ ?_; focus ((repeat' (first | exact trivial | exact rfl | (refine And.intro ?_ ?_) | omega | ((conv => whnf); first | exact trivial | exact rfl | (refine And.intro ?_ ?_)))); done)))
      | ((refine Br.beq (by rfl) ?_))
      | ((refine Br.bne (by rfl) ?_))
      | ((refine And.intro (Or.inl (Nat.zero_le _)) ?_))
      | ((refine And.intro (show _ ≤ _ from Nat.le_of_ble_eq_true rfl) ?_))
      | (refine Br.tt ?_)
      | (refine Br.ff ?_)
      | (refine Br.dec (fun h => ?_) (fun h => ?_)) <;> try (exfalso; omega)
      | (refine Br.neg ?_)
      | (refine Br.mk (fun h => ?_) (fun h => ?_))
      | (refine And.intro rfl ?_)
      | (refine And.intro (by omega) ?_)
      | (refine ⟨_, Or.inl ⟨⟨by omega, by omega⟩, rfl⟩, ?_⟩)
      | (refine And.intro (by simp only [lens_all, its_len]; first | done | omega) ?_)
      | (refine And.intro (Nat.le_refl _) ?_)
      | fail
    conv => whnf
    rw [frz_len (by simp)]
    rfl
end
section
open Go.RowKit
attribute [local irreducible] FS FO IT HS
end
section
open Go.RowKit
attribute [local irreducible] FS FO IT HS

def ir_fretworklaw10_DevecAlike : IR :=
(.seq (.reg (⟨(some 5), .bx (.t 2), none⟩ ::⟨(some 6), .mv (.c (.bool false)), none⟩ :: [])) (.seq (.reg (⟨(some 13), .mv (.t 0), none⟩ ::⟨(some 14), .mv (.t 1), none⟩ ::⟨(some 15), .call (.c (.fn 39 [])) [(.t 13), (.t 14)], none⟩ ::⟨(some 7), .al [.int .i64 0, .nils], none⟩ ::⟨none, .st 2 (.t 7) (.t 15), none⟩ :: [])) (.seq (.reg (⟨(some 16), .ld 2 true (.t 7), none⟩ ::⟨(some 17), .call (.c (.fn 23 [])) [(.t 16)], none⟩ ::⟨(some 8), .al [.int .i64 0, .nils, .nils], none⟩ ::⟨none, .st 3 (.t 8) (.t 17), none⟩ :: [])) (.seq (.reg (⟨(some 19), .ld 3 true (.t 8), none⟩ ::⟨(some 20), .iaA 3 1 (.t 5) (.c (.int .i64 0)), none⟩ ::⟨(some 21), .ld 1 false (.t 20), none⟩ ::⟨(some 22), .call (.c (.fn 27 [])) [(.t 19), (.t 21)], none⟩ ::⟨(some 18), .mv (.t 22), none⟩ ::⟨(some 23), .ex 0 (.t 18), none⟩ ::⟨(some 24), .ex 1 (.t 18), none⟩ ::⟨(some 9), .mv (.t 23), none⟩ ::⟨(some 10), .mv (.t 24), none⟩ :: [])) (.seq (.reg (⟨(some 26), .ld 2 true (.t 7), none⟩ ::⟨(some 27), .iaA 3 1 (.t 5) (.c (.int .i64 0)), none⟩ ::⟨(some 28), .ld 1 false (.t 27), none⟩ ::⟨(some 29), .call (.c (.fn 44 [])) [(.t 26), (.t 28)], none⟩ ::⟨(some 25), .mv (.t 29), none⟩ ::⟨(some 30), .ex 0 (.t 25), none⟩ ::⟨(some 31), .ex 1 (.t 25), none⟩ ::⟨(some 11), .mv (.t 30), none⟩ ::⟨(some 12), .mv (.t 31), none⟩ :: [])) (.seq (.draw (⟨(some 32), .call (.c (.fn 15 [])) [], none⟩ ::⟨(some 33), .mv (.t 32), none⟩ ::⟨(some 34), .mv (.t 9), some (33, true)⟩ ::⟨(some 35), .mv (.t 11), some (33, true)⟩ ::⟨(some 36), .bin .eql (.t 34) (.t 35), some (33, true)⟩ ::⟨(some 37), .pick (.t 33) (.t 36) (.c (.bool false)), none⟩ ::⟨(some 38), .mv (.t 37), none⟩ ::⟨(some 39), .mv (.t 10), some (38, true)⟩ ::⟨(some 40), .mv (.t 12), some (38, true)⟩ ::⟨(some 41), .beq false (.t 39) (.t 40), some (38, true)⟩ ::⟨(some 42), .pick (.t 38) (.t 41) (.c (.bool false)), none⟩ ::⟨(some 43), .mv (.t 42), none⟩ ::⟨(some 44), .ld 3 true (.t 8), some (43, true)⟩ ::⟨(some 45), .iaA 3 1 (.t 5) (.c (.int .i64 0)), some (43, true)⟩ ::⟨(some 46), .ld 1 false (.t 45), some (43, true)⟩ ::⟨(some 47), .call (.c (.fn 29 [])) [(.t 44), (.t 46), (.c (.int .i64 7))], some (43, true)⟩ ::⟨(some 48), .call (.c (.fn 20 [])) [(.t 47)], some (43, true)⟩ ::⟨(some 49), .ld 2 true (.t 7), some (43, true)⟩ ::⟨(some 50), .iaA 3 1 (.t 5) (.c (.int .i64 0)), some (43, true)⟩ ::⟨(some 51), .ld 1 false (.t 50), some (43, true)⟩ ::⟨(some 52), .call (.c (.fn 47 [])) [(.t 49), (.t 51), (.c (.int .i64 7))], some (43, true)⟩ ::⟨(some 53), .call (.c (.fn 19 [])) [(.t 48), (.t 52)], some (43, true)⟩ ::⟨(some 54), .pick (.t 43) (.t 53) (.c (.bool false)), none⟩ ::⟨(some 55), .mv (.t 54), none⟩ ::⟨(some 56), .ld 3 true (.t 8), some (55, true)⟩ ::⟨(some 57), .iaA 3 1 (.t 5) (.c (.int .i64 0)), some (55, true)⟩ ::⟨(some 58), .ld 1 false (.t 57), some (55, true)⟩ ::⟨(some 59), .call (.c (.fn 31 [])) [(.t 56), (.t 58)], some (55, true)⟩ ::⟨(some 60), .call (.c (.fn 20 [])) [(.t 59)], some (55, true)⟩ ::⟨(some 61), .ld 2 true (.t 7), some (55, true)⟩ ::⟨(some 62), .iaA 3 1 (.t 5) (.c (.int .i64 0)), some (55, true)⟩ ::⟨(some 63), .ld 1 false (.t 62), some (55, true)⟩ ::⟨(some 64), .call (.c (.fn 48 [])) [(.t 61), (.t 63)], some (55, true)⟩ ::⟨(some 65), .call (.c (.fn 19 [])) [(.t 60), (.t 64)], some (55, true)⟩ ::⟨(some 66), .pick (.t 55) (.t 65) (.c (.bool false)), none⟩ ::⟨(some 67), .mv (.t 66), none⟩ ::⟨(some 68), .ld 3 true (.t 8), some (67, true)⟩ ::⟨(some 69), .iaA 3 1 (.t 5) (.c (.int .i64 1)), some (67, true)⟩ ::⟨(some 70), .ld 1 false (.t 69), some (67, true)⟩ ::⟨(some 71), .iaA 3 1 (.t 5) (.c (.int .i64 2)), some (67, true)⟩ ::⟨(some 72), .ld 1 false (.t 71), some (67, true)⟩ ::⟨(some 73), .call (.c (.fn 37 [])) [(.t 68), (.t 70), (.t 72)], some (67, true)⟩ ::⟨(some 74), .call (.c (.fn 20 [])) [(.t 73)], some (67, true)⟩ ::⟨(some 75), .ld 2 true (.t 7), some (67, true)⟩ ::⟨(some 76), .iaA 3 1 (.t 5) (.c (.int .i64 1)), some (67, true)⟩ ::⟨(some 77), .ld 1 false (.t 76), some (67, true)⟩ ::⟨(some 78), .iaA 3 1 (.t 5) (.c (.int .i64 2)), some (67, true)⟩ ::⟨(some 79), .ld 1 false (.t 78), some (67, true)⟩ :: []) (⟨(some 80), .call (.c (.fn 42 [])) [(.t 75), (.t 77), (.t 79)], some (67, true)⟩ ::⟨(some 81), .call (.c (.fn 19 [])) [(.t 74), (.t 80)], some (67, true)⟩ ::⟨(some 82), .pick (.t 67) (.t 81) (.c (.bool false)), none⟩ ::⟨(some 6), .mv (.t 82), none⟩ :: [])) .ret))))))
theorem cd_fretworklaw10_DevecAlike : Code1 Try.prog 8 83 ir_fretworklaw10_DevecAlike [.t 6] := ⟨Try.call8, _, _, Try.func8, rfl, by kernel_rfl, by kernel_rfl, by kernel_rfl, by kernel_rfl⟩

set_option maxHeartbeats 8000000 in
theorem fs_DevecAlike (n : Int) (l : List (Int × Int)) (p q r : Int) (hn : 0 ≤ n ∧ n ≤ 255) (hb : Ib l) (hp : I64 p) (hq : I64 q) (hr : I64 r) : FS Try.prog 8 [.int .u8 n, IL l, .agg [.int .i64 p, .int .i64 q, .int .i64 r]] (.bool true) := by
  refine fs_of_cvc mixed cd_fretworklaw10_DevecAlike (by simp) ?_
  have ct := fs_Some n l hn hb
  obtain ⟨a, ea, ha, ia, la⟩ := sm_ok hn hb
  rw [ea] at ct
  have hK := tmod_bd hn.1 (show (0 : Int) < 60 by omega)
  generalize n.tmod 60 = K at *
  have c1 := fv_Of ha
  have c2 := fv_Get ha p hp
  have c3 := fs_Get K a p (by omega)
  rw [ha.sl, valI_gt, hasI'_gt] at c3
  have c4 := fv_Set ha p 7 hp
  have hs : OkV K (putR K a p 7) := ha.put
  have c5 := fv_Back hs
  have c6 := fs_vPut K a p 7 (by omega)
  rw [ha.sn, ha.sl] at c6
  have c7 := fs_same9 K (putR K a p 7) (by have := hs.le; omega)
  have c8 := fv_Drop ha p hp
  have hd : OkV K (rest (fun y => decide (y.1 = p)) a) := ha.filt _
  have c9 := fv_Back hd
  have ca := fs_vDrop K a p (by omega)
  rw [ha.sn, ha.sl] at ca
  have cb := fs_same9 K (rest (fun y => decide (y.1 = p)) a) (by have := hd.le; omega)
  have cc := fv_Part ha q r hq hr
  have ht := okV_ptR ha q r
  have cd := fv_Back ht
  have ce := fs_vPart K a q r (by omega) hq hr
  rw [ha.sn, ha.sl] at ce
  have cf := fs_same9 (ptR K a q r).1 (ptR K a q r).2 (by have := ht.le; omega)
  generalize (ptR K a q r).1 = N2 at *
  generalize (ptR K a q r).2 = a2 at *
  generalize putR K a p 7 = a3 at *
  generalize rest (fun y => decide (y.1 = p)) a = a4 at *
  generalize (gt a p).getD 0 = g1 at *
  generalize (gt a p).isSome = g2 at *
  repeat' (conv => whnf); first
    | ((refine Or.inl ⟨by rfl, _, ct, ?_⟩))
    | ((refine Or.inl ⟨by rfl, _, c1, ?_⟩))
    | ((refine Or.inl ⟨by rfl, _, c2, ?_⟩))
    | ((refine Or.inl ⟨by rfl, _, c3, ?_⟩))
    | ((refine Or.inl ⟨by rfl, _, c4, ?_⟩))
    | ((refine Or.inl ⟨by rfl, _, c5, ?_⟩))
    | ((refine Or.inl ⟨by rfl, _, c6, ?_⟩))
    | ((refine Or.inl ⟨by rfl, _, c7, ?_⟩))
    | ((refine Or.inl ⟨by rfl, _, c8, ?_⟩))
    | ((refine Or.inl ⟨by rfl, _, c9, ?_⟩))
    | ((refine Or.inl ⟨by rfl, _, ca, ?_⟩))
    | ((refine Or.inl ⟨by rfl, _, cb, ?_⟩))
    | ((refine Or.inl ⟨by rfl, _, cc, ?_⟩))
    | ((refine Or.inl ⟨by rfl, _, cd, ?_⟩))
    | ((refine Or.inl ⟨by rfl, _, ce, ?_⟩))
    | ((refine Or.inl ⟨by rfl, _, cf, ?_⟩))
    | ((refine Or.inl ⟨by rfl, _, fs_live10, ?_⟩))
    | ((refine Br.beq (by rfl) ?_))
    | ((refine Br.bne (by rfl) ?_))
    | ((refine And.intro (Or.inl (Nat.zero_le _)) ?_))
    | ((refine And.intro (show _ ≤ _ from Nat.le_of_ble_eq_true rfl) ?_))
    | (refine Br.tt ?_)
    | (refine Br.ff ?_)
    | (refine Br.dec (fun h => ?_) (fun h => ?_)) <;> try (exfalso; omega)
    | (refine Br.neg ?_)
    | (refine Br.mk (fun h => ?_) (fun h => ?_))
    | (refine And.intro rfl ?_)
    | (refine And.intro (by omega) ?_)
    | (refine ⟨_, Or.inl ⟨⟨by omega, by omega⟩, rfl⟩, ?_⟩)
    | (refine And.intro (by simp only [lens_all, U_len, zs_len, its_len, ints_len]; first | done | omega) ?_)
    | (refine And.intro (Nat.le_refl _) ?_)
    | fail
  all_goals exact rfl
end
end Go.Proofs.Ytahpfomabgfmkaa
