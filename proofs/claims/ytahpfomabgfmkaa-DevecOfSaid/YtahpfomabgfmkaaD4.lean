/- Dense vectors: what the laws call; the first laws. The laws on dense vectors. -/
import Derived.Test.YtahpfomabgfmkaaD3
namespace Go.Proofs.Ytahpfomabgfmkaa
section
open Go.RowKit
attribute [local irreducible] FS FO IT HS

section
variable {n : Int} {l : List (Int × Int)} (h : OkV n l)
include h
theorem OkV.i64 : I64 n := by have := h.n0; have := h.n1; unfold I64; omega
theorem dl_f : (toF n l).length ≤ 1000000 := by have := (okD_to h).len; omega
theorem dl_v : (toL n l).length ≤ 1000000 := by have := (okD_to h).vl; have := h.n1; omega
theorem bits_to : (bits (toF n l)).length = l.length := by
  have := congrArg List.length (bk_to h)
  simpa [bkL] using this
theorem fv_Right : FS Try.prog 17 [dV n l] (.bool true) := by
  have := fs_dRight n (toF n l) (toL n l) h.i64 (okD_to h).wd (dl_f h) (dl_v h)
  rwa [(okD_to h).right] at this
theorem fv_Back : FS Try.prog 20 [dV n l] (VC n l) := by
  have := fs_dBack n (toF n l) (toL n l) h.i64 (okD_to h).wd (dl_f h) (dl_v h)
  rwa [(okD_to h).dS, bk_to h] at this
theorem fv_Get (p : Int) (hp : I64 p) : FS Try.prog 27 [dV n l, .int .i64 p] (.tup [.int .i64 ((gt l p).getD 0), .bool (gt l p).isSome]) := by
  have := fs_dGet n (toF n l) (toL n l) p h.i64 hp (okD_to h).wd (dl_f h) (dl_v h)
  rwa [(okD_to h).dS, dG_to h] at this
theorem fv_Count : FS Try.prog 33 [dV n l] (.int .i64 (l.length : Int)) := by
  have := fs_dCount n (toF n l) (toL n l) h.i64 (okD_to h).wd (dl_f h) (dl_v h)
  rwa [(okD_to h).dS, bits_to h] at this
theorem fv_Set (p x : Int) (hp : I64 p) : FS Try.prog 29 [dV n l, .int .i64 p, .int .i64 x] (dV n (putR n l p x)) := by
  have := fs_dSet n (toF n l) (toL n l) p x h.i64 hp (okD_to h).wd (dl_f h) (dl_v h)
  rwa [(okD_to h).dS, bk_to h] at this
theorem fv_Drop (p : Int) (hp : I64 p) : FS Try.prog 31 [dV n l, .int .i64 p] (dV n (rest (fun y => decide (y.1 = p)) l)) := by
  have := fs_dDrop n (toF n l) (toL n l) p h.i64 hp (okD_to h).wd (dl_f h) (dl_v h)
  rwa [(okD_to h).dS, bk_to h] at this
theorem fv_Only (g : List Nat) (hg : Wd g) (hgl : g.length ≤ 1000000) : FS Try.prog 35 [dV n l, U g] (dV n (l.filter fun x => hasI g x.1)) := by
  have := fs_dOnly n (toF n l) (toL n l) g h.i64 (okD_to h).wd hg (dl_f h) (dl_v h) hgl
  rwa [(okD_to h).dS, bk_to h] at this
theorem fv_Part (p q : Int) (hp : I64 p) (hq : I64 q) : FS Try.prog 37 [dV n l, .int .i64 p, .int .i64 q] (dV (ptR n l p q).1 (ptR n l p q).2) := by
  have := fs_dPart n (toF n l) (toL n l) p q h.i64 hp hq (okD_to h).wd (dl_f h) (dl_v h)
  rwa [(okD_to h).dS, bk_to h] at this
theorem fv_Of : FS Try.prog 23 [VC n l] (dV n l) := by
  have := fs_dOf n l (by have := h.le; omega)
  rwa [h.sn, h.sl] at this
theorem fv_Same : FS Try.prog 40 [dV n l, dV n l] (.bool true) := by
  have := fs_dSame n (toF n l) (toL n l) n (toF n l) (toL n l) (by have := dl_f h; omega) (by have := dl_v h; omega)
  rwa [decide_eq_true rfl, decide_eq_true rfl, decide_eq_true rfl] at this
end
theorem dNew_V (n : Int) : DV (clipN n) (List.replicate (wordsI (clipN n)) 0) (List.replicate (clipN n).toNat 0) = dV (clipN n) [] := by
  unfold dV
  have e1 : toF (clipN n) [] = List.replicate (wordsI (clipN n)) 0 := rfl
  have e2 : toL (clipN n) [] = List.replicate (clipN n).toNat 0 := by
    unfold toL
    refine (tab_ext (by simp) fun i hi => ?_).symm
    rw [List.getElem?_replicate, if_pos hi]; rfl
  rw [e1, e2]
theorem fv_New (n : Int) : FS Try.prog 25 [.int .i64 n] (dV (clipN n) []) := by rw [← dNew_V]; exact fs_dNew n
theorem fv_rNew (n : Int) : FS Try.prog 26 [.int .i64 n] (dV (clipN n) []) := by rw [← dNew_V]; exact fs_r10New n
theorem okV_nil {n : Int} (h0 : 0 ≤ n) (h1 : n ≤ 4096) : OkV n [] := ⟨h0, h1, .nil, fun x hx => by cases hx⟩
theorem okV_70 : OkV 70 [(65, 9)] := ⟨by omega, by omega, List.pairwise_singleton _ _, fun x hx => by simp at hx; subst hx; exact ⟨by show (0 : Int) ≤ 65; omega, by show (65 : Int) < 70; omega⟩⟩
theorem I64c {n : Int} (h : (decide (-9223372036854775808 ≤ n) && decide (n ≤ 9223372036854775807)) = true) : I64 n := by
  rw [Bool.and_eq_true, decide_eq_true_eq, decide_eq_true_eq] at h; exact h

def ir_fretworklaw10_live : IR :=
(.seq (.reg (⟨(some 0), .mv (.c (.bool false)), none⟩ :: [])) (.seq (.reg (⟨(some 7), .call (.c (.fn 25 [])) [(.c (.int .i64 70))], none⟩ ::⟨(some 8), .call (.c (.fn 29 [])) [(.t 7), (.c (.int .i64 65)), (.c (.int .i64 9))], none⟩ ::⟨(some 1), .al [.int .i64 0, .nils, .nils], none⟩ ::⟨none, .st 3 (.t 1) (.t 8), none⟩ :: [])) (.seq (.reg (⟨(some 10), .ld 3 true (.t 1), none⟩ ::⟨(some 11), .call (.c (.fn 27 [])) [(.t 10), (.c (.int .i64 65))], none⟩ ::⟨(some 9), .mv (.t 11), none⟩ ::⟨(some 12), .ex 0 (.t 9), none⟩ ::⟨(some 13), .ex 1 (.t 9), none⟩ ::⟨(some 2), .mv (.t 12), none⟩ ::⟨(some 3), .mv (.t 13), none⟩ :: [])) (.seq (.reg (⟨(some 15), .ld 3 true (.t 1), none⟩ ::⟨(some 16), .call (.c (.fn 27 [])) [(.t 15), (.c (.int .i64 1))], none⟩ ::⟨(some 14), .mv (.t 16), none⟩ ::⟨(some 17), .ex 0 (.t 14), none⟩ ::⟨(some 18), .ex 1 (.t 14), none⟩ ::⟨(some 4), .mv (.t 17), none⟩ ::⟨(some 5), .mv (.t 18), none⟩ :: [])) (.seq (.reg (⟨(some 19), .ld 3 true (.t 1), none⟩ ::⟨(some 20), .call (.c (.fn 20 [])) [(.t 19)], none⟩ ::⟨(some 6), .al [.int .i64 0, .nils], none⟩ ::⟨none, .st 2 (.t 6) (.t 20), none⟩ :: [])) (.seq (.draw (⟨(some 21), .mv (.t 2), none⟩ ::⟨(some 22), .bin .eql (.t 21) (.c (.int .i64 9)), none⟩ ::⟨(some 23), .mv (.t 22), none⟩ ::⟨(some 24), .mv (.t 3), some (23, true)⟩ ::⟨(some 25), .pick (.t 23) (.t 24) (.c (.bool false)), none⟩ ::⟨(some 26), .mv (.t 25), none⟩ ::⟨(some 27), .mv (.t 5), some (26, true)⟩ ::⟨(some 28), .un .not (.t 27), some (26, true)⟩ ::⟨(some 29), .pick (.t 26) (.t 28) (.c (.bool false)), none⟩ ::⟨(some 30), .mv (.t 29), none⟩ ::⟨(some 31), .ld 3 true (.t 1), some (30, true)⟩ ::⟨(some 32), .call (.c (.fn 33 [])) [(.t 31)], some (30, true)⟩ ::⟨(some 33), .bin .eql (.t 32) (.c (.int .i64 1)), some (30, true)⟩ ::⟨(some 34), .pick (.t 30) (.t 33) (.c (.bool false)), none⟩ ::⟨(some 35), .mv (.t 34), none⟩ ::⟨(some 36), .fa 1 (.t 6), some (35, true)⟩ ::⟨(some 37), .ld 1 false (.t 36), some (35, true)⟩ ::⟨(some 38), .ln (.t 37), some (35, true)⟩ ::⟨(some 39), .bin .eql (.t 38) (.c (.int .i64 1)), some (35, true)⟩ ::⟨(some 40), .pick (.t 35) (.t 39) (.c (.bool false)), none⟩ ::⟨(some 41), .mv (.t 40), none⟩ ::⟨(some 42), .fa 0 (.t 6), some (41, true)⟩ ::⟨(some 43), .ld 1 false (.t 42), some (41, true)⟩ ::⟨(some 44), .bin .eql (.t 43) (.c (.int .i64 70)), some (41, true)⟩ ::⟨(some 45), .pick (.t 41) (.t 44) (.c (.bool false)), none⟩ ::⟨(some 46), .mv (.t 45), none⟩ ::⟨(some 47), .ld 2 true (.t 6), some (46, true)⟩ ::⟨(some 48), .call (.c (.fn 23 [])) [(.t 47)], some (46, true)⟩ ::⟨(some 49), .ld 3 true (.t 1), some (46, true)⟩ ::⟨(some 50), .call (.c (.fn 40 [])) [(.t 48), (.t 49)], some (46, true)⟩ ::⟨(some 51), .pick (.t 46) (.t 50) (.c (.bool false)), none⟩ ::⟨(some 52), .mv (.t 51), none⟩ ::⟨(some 53), .ld 3 true (.t 1), some (52, true)⟩ ::⟨(some 54), .call (.c (.fn 17 [])) [(.t 53)], some (52, true)⟩ ::⟨(some 55), .pick (.t 52) (.t 54) (.c (.bool false)), none⟩ ::⟨(some 56), .mv (.t 55), none⟩ ::⟨(some 57), .bld [.int .i64 0, .nils, .nils] [(0, 1, (.c (.int .i64 1)))], some (56, true)⟩ ::⟨(some 58), .call (.c (.fn 17 [])) [(.t 57)], some (56, true)⟩ ::⟨(some 59), .un .not (.t 58), some (56, true)⟩ ::⟨(some 60), .pick (.t 56) (.t 59) (.c (.bool false)), none⟩ ::⟨(some 61), .mv (.t 60), none⟩ ::⟨(some 62), .ld 3 true (.t 1), some (61, true)⟩ ::⟨(some 63), .call (.c (.fn 31 [])) [(.t 62), (.c (.int .i64 65))], some (61, true)⟩ ::⟨(some 64), .call (.c (.fn 33 [])) [(.t 63)], some (61, true)⟩ ::⟨(some 65), .bin .eql (.t 64) (.c (.int .i64 0)), some (61, true)⟩ ::⟨(some 66), .pick (.t 61) (.t 65) (.c (.bool false)), none⟩ ::⟨(some 67), .mv (.t 66), none⟩ ::⟨(some 68), .ld 3 true (.t 1), some (67, true)⟩ ::⟨(some 69), .call (.c (.fn 35 [])) [(.t 68), (.c (.nils))], some (67, true)⟩ ::⟨(some 70), .call (.c (.fn 33 [])) [(.t 69)], some (67, true)⟩ ::⟨(some 71), .bin .eql (.t 70) (.c (.int .i64 0)), some (67, true)⟩ ::⟨(some 72), .pick (.t 67) (.t 71) (.c (.bool false)), none⟩ ::⟨(some 73), .mv (.t 72), none⟩ ::⟨(some 74), .ld 3 true (.t 1), some (73, true)⟩ ::⟨(some 75), .call (.c (.fn 37 [])) [(.t 74), (.c (.int .i64 60)), (.c (.int .i64 70))], some (73, true)⟩ ::⟨(some 76), .fd 0 1 false (.t 75), some (73, true)⟩ ::⟨(some 77), .bin .eql (.t 76) (.c (.int .i64 10)), some (73, true)⟩ ::⟨(some 78), .pick (.t 73) (.t 77) (.c (.bool false)), none⟩ ::⟨(some 79), .mv (.t 78), none⟩ ::⟨(some 80), .ld 3 true (.t 1), some (79, true)⟩ ::⟨(some 81), .call (.c (.fn 25 [])) [(.c (.int .i64 70))], some (79, true)⟩ :: []) (⟨(some 82), .call (.c (.fn 40 [])) [(.t 80), (.t 81)], some (79, true)⟩ ::⟨(some 83), .un .not (.t 82), some (79, true)⟩ ::⟨(some 84), .pick (.t 79) (.t 83) (.c (.bool false)), none⟩ ::⟨(some 0), .mv (.t 84), none⟩ :: [])) .ret))))))
theorem cd_fretworklaw10_live : Code1 Try.prog 15 85 ir_fretworklaw10_live [.t 0] := ⟨Try.call15, _, _, Try.func15, rfl, by kernel_rfl, by kernel_rfl, by kernel_rfl, by kernel_rfl⟩

set_option maxHeartbeats 8000000 in
set_option maxRecDepth 100000 in
theorem fs_live10 : FS Try.prog 15 [] (.bool true) := by
  have h0 := okV_nil (n := 70) (by omega) (by omega)
  have h := okV_70
  have c1 := fv_New 70
  rw [show clipN 70 = 70 by kernel_rfl] at c1
  have c2 := fv_Set h0 65 9 (I64c rfl)
  rw [show putR 70 [] 65 9 = [(65, 9)] by kernel_rfl] at c2
  have c3 := fv_Get h 65 (I64c rfl)
  rw [show gt [(65, 9)] 65 = some 9 by kernel_rfl] at c3
  have c4 := fv_Get h 1 (I64c rfl)
  rw [show gt [(65, 9)] 1 = none by kernel_rfl] at c4
  have c5 := fv_Back h
  have c6 := fv_Count h
  have c7 := fv_Of h
  have c8 := fv_Same h
  have c9 := fv_Right h
  have c10 := fs_dRight 1 [] [] (I64c rfl) (by intro x hx; cases hx) (by simp) (by simp)
  rw [show dR 1 [] [] = false by kernel_rfl] at c10
  have c10' : FS Try.prog 17 [.agg [.int .i64 1, .nils, .nils]] (.bool false) := fs_le c10 ⟨⟨rfl, rfl, rfl, trivial⟩, trivial⟩
  have c11 := fv_Drop h 65 (I64c rfl)
  rw [show rest (fun y => decide (y.1 = 65)) [((65 : Int), (9 : Int))] = [] by kernel_rfl] at c11
  have c12 := fv_Count h0
  have c13 := fv_Only h [] (by intro x hx; cases hx) (by simp)
  rw [show ([((65 : Int), (9 : Int))] : List (Int × Int)).filter (fun x => hasI [] x.1) = [] by kernel_rfl] at c13
  have c13' : FS Try.prog 35 [dV 70 [(65, 9)], .nils] (dV 70 []) := fs_le c13 ⟨rfl, rfl, trivial⟩
  have c14 := fv_Part h 60 70 (I64c rfl) (I64c rfl)
  rw [show ptR 70 [(65, 9)] 60 70 = (10, [(5, 9)]) by kernel_rfl] at c14
  have c15 := fs_dSame 70 (toF 70 [(65, 9)]) (toL 70 [(65, 9)]) 70 (toF 70 []) (toL 70 []) (by have := dl_f h; omega) (by have := dl_v h; omega)
  rw [show (decide ((70 : Int) = 70) && (decide (toF 70 [(65, 9)] = toF 70 []) && decide (toL 70 [(65, 9)] = toL 70 []))) = false by kernel_rfl] at c15
  have c15' : FS Try.prog 40 [dV 70 [(65, 9)], dV 70 []] (.bool false) := c15
  refine fs_of_cvc mixed cd_fretworklaw10_live (by simp) ?_
  unfold dV at *
  generalize toF 70 [(65, 9)] = F1 at *
  generalize toL 70 [(65, 9)] = L1 at *
  generalize toF 70 [] = F0 at *
  generalize toL 70 [] = L0 at *
  generalize toF (10, [(5, 9)]).1 _ = F2 at *
  generalize toL (10, [(5, 9)]).1 _ = L2 at *
  repeat' (conv => whnf); first
    | ((refine Or.inl ⟨by rfl, _, c1, ?_⟩))
    | ((refine Or.inl ⟨by rfl, _, c2, ?_⟩))
    | ((refine Or.inl ⟨by rfl, _, c3, ?_⟩))
    | ((refine Or.inl ⟨by rfl, _, c4, ?_⟩))
    | ((refine Or.inl ⟨by rfl, _, c5, ?_⟩))
    | ((refine Or.inl ⟨by rfl, _, c6, ?_⟩))
    | ((refine Or.inl ⟨by rfl, _, c7, ?_⟩))
    | ((refine Or.inl ⟨by rfl, _, c8, ?_⟩))
    | ((refine Or.inl ⟨by rfl, _, c9, ?_⟩))
    | ((refine Or.inl ⟨by rfl, _, c10', ?_⟩))
    | ((refine Or.inl ⟨by rfl, _, c11, ?_⟩))
    | ((refine Or.inl ⟨by rfl, _, c12, ?_⟩))
    | ((refine Or.inl ⟨by rfl, _, c13', ?_⟩))
    | ((refine Or.inl ⟨by rfl, _, c14, ?_⟩))
    | ((refine Or.inl ⟨by rfl, _, c15', ?_⟩))
    | ((refine Br.beq (by rfl) ?_))
    | ((refine Br.bne (by rfl) ?_))
    | ((refine And.intro (Or.inl (Nat.zero_le _)) ?_))
    | ((refine And.intro (show _ ≤ _ from Nat.le_of_ble_eq_true rfl) ?_))
    | (refine Br.tt ?_)
    | (refine Br.ff ?_)
    | (refine Br.dec (fun h => ?_) (fun h => ?_)) <;> try (exfalso; omega)
    | (refine Br.neg ?_)
    | (refine Br.mk (fun h => ?_) (fun h => ?_))
    | (refine And.intro rfl ?_)
    | (refine And.intro (by omega) ?_)
    | (refine ⟨_, Or.inl ⟨⟨by omega, by omega⟩, rfl⟩, ?_⟩)
    | (refine And.intro (by simp only [lens_all, U_len, zs_len, its_len, ints_len]; first | done | omega) ?_)
    | (refine And.intro (Nat.le_refl _) ?_)
    | fail
  all_goals exact rfl
end
section
open Go.RowKit
attribute [local irreducible] FS FO IT HS

def ir_fretworklaw10_small : IR :=
(.seq (.reg (⟨(some 1), .bx (.t 0), none⟩ ::⟨(some 2), .mv (.c (.bool false)), none⟩ :: [])) (.seq (.reg (⟨(some 3), .fa 2 (.t 1), none⟩ ::⟨(some 4), .ld 1 false (.t 3), none⟩ ::⟨(some 5), .ln (.t 4), none⟩ ::⟨(some 6), .bin .leq (.t 5) (.c (.int .i64 150)), none⟩ ::⟨(some 7), .mv (.t 6), none⟩ ::⟨(some 8), .fa 1 (.t 1), some (7, true)⟩ ::⟨(some 9), .ld 1 false (.t 8), some (7, true)⟩ ::⟨(some 10), .ln (.t 9), some (7, true)⟩ ::⟨(some 11), .bin .leq (.t 10) (.c (.int .i64 5)), some (7, true)⟩ ::⟨(some 12), .pick (.t 7) (.t 11) (.c (.bool false)), none⟩ ::⟨(some 2), .mv (.t 12), none⟩ :: [])) .ret))
theorem cd_fretworklaw10_small : Code1 Try.prog 16 13 ir_fretworklaw10_small [.t 2] := ⟨Try.call16, _, _, Try.func16, rfl, by kernel_rfl, by kernel_rfl, by kernel_rfl, by kernel_rfl⟩

theorem fs_small (n : Int) (f : List Nat) (v : List Int) : FS Try.prog 16 [DV n f v] (.bool (decide (v.length ≤ 150) && decide (f.length ≤ 5))) := by
  refine fs_of_cvc mixed cd_fretworklaw10_small (by simp) ?_
  have h1 := zs_len v
  have h2 := U_len f
  by_cases a : v.length ≤ 150
  · by_cases b : f.length ≤ 5
    · rw [decide_eq_true a, decide_eq_true b]
      repeat' (conv => whnf); first
        | ((refine Br.beq (by rfl) ?_))
        | ((refine Br.bne (by rfl) ?_))
        | ((refine And.intro (Or.inl (Nat.zero_le _)) ?_))
        | ((refine And.intro (show _ ≤ _ from Nat.le_of_ble_eq_true rfl) ?_))
        | (refine Br.tt ?_)
        | (refine Br.ff ?_)
        | (refine Br.dec (fun h => ?_) (fun h => ?_)) <;> try (exfalso; omega)
        | (refine Br.neg ?_)
        | (refine Br.mk (fun h => ?_) (fun h => ?_))
        | (refine And.intro rfl ?_)
        | (refine And.intro (by omega) ?_)
        | (refine ⟨_, Or.inl ⟨⟨by omega, by omega⟩, rfl⟩, ?_⟩)
        | (refine And.intro (by simp only [lens_all, U_len, zs_len, its_len, ints_len]; first | done | omega) ?_)
        | (refine And.intro (Nat.le_refl _) ?_)
        | fail
      show SV.bool (decide _) = SV.bool _
      rw [decide_eq_true (by omega)]; rfl
    · rw [decide_eq_true a, decide_eq_false b]
      repeat' (conv => whnf); first
        | ((refine Br.beq (by rfl) ?_))
        | ((refine Br.bne (by rfl) ?_))
        | ((refine And.intro (Or.inl (Nat.zero_le _)) ?_))
        | ((refine And.intro (show _ ≤ _ from Nat.le_of_ble_eq_true rfl) ?_))
        | (refine Br.tt ?_)
        | (refine Br.ff ?_)
        | (refine Br.dec (fun h => ?_) (fun h => ?_)) <;> try (exfalso; omega)
        | (refine Br.neg ?_)
        | (refine Br.mk (fun h => ?_) (fun h => ?_))
        | (refine And.intro rfl ?_)
        | (refine And.intro (by omega) ?_)
        | (refine ⟨_, Or.inl ⟨⟨by omega, by omega⟩, rfl⟩, ?_⟩)
        | (refine And.intro (by simp only [lens_all, U_len, zs_len, its_len, ints_len]; first | done | omega) ?_)
        | (refine And.intro (Nat.le_refl _) ?_)
        | fail
      show SV.bool (decide _) = SV.bool _
      rw [decide_eq_false (by omega)]; rfl
  · rw [decide_eq_false a, Bool.false_and]
    repeat' (conv => whnf); first
      | ((refine Br.beq (by rfl) ?_))
      | ((refine Br.bne (by rfl) ?_))
      | ((refine And.intro (Or.inl (Nat.zero_le _)) ?_))
      | ((refine And.intro (show _ ≤ _ from Nat.le_of_ble_eq_true rfl) ?_))
      | (refine Br.tt ?_)
      | (refine Br.ff ?_)
      | (refine Br.dec (fun h => ?_) (fun h => ?_)) <;> try (exfalso; omega)
      | (refine Br.neg ?_)
      | (refine Br.mk (fun h => ?_) (fun h => ?_))
      | (refine And.intro rfl ?_)
      | (refine And.intro (by omega) ?_)
      | (refine ⟨_, Or.inl ⟨⟨by omega, by omega⟩, rfl⟩, ?_⟩)
      | (refine And.intro (by simp only [lens_all, U_len, zs_len, its_len, ints_len]; first | done | omega) ?_)
      | (refine And.intro (Nat.le_refl _) ?_)
      | fail
    exact rfl

theorem fs_sameV {n : Int} {l : List (Int × Int)} (h : OkV n l) : FS Try.prog 22 [dV n l, dV n l] (.bool true) := by
  have := fs_r10Same n (toF n l) (toL n l) n (toF n l) (toL n l) (by have := dl_f h; omega) (by have := dl_v h; omega)
  rwa [decide_eq_true rfl, decide_eq_true rfl, decide_eq_true rfl] at this

def ir_fretworklaw10_DevecOf : IR :=
(.seq (.reg (⟨(some 3), .bx (.t 0), none⟩ ::⟨(some 4), .bx (.t 1), none⟩ ::⟨(some 6), .mv (.c (.bool false)), none⟩ :: [])) (.seq (.reg (⟨(some 7), .ld 2 true (.t 4), none⟩ ::⟨(some 8), .call (.c (.fn 14 [])) [(.t 7)], none⟩ ::⟨none, .st 2 (.t 4) (.t 8), none⟩ :: [])) (.seq (.draw (⟨(some 9), .call (.c (.fn 15 [])) [], none⟩ ::⟨(some 10), .mv (.t 9), none⟩ ::⟨(some 11), .ld 3 true (.t 3), some (10, true)⟩ ::⟨(some 12), .call (.c (.fn 16 [])) [(.t 11)], some (10, true)⟩ ::⟨(some 13), .un .not (.t 12), some (10, true)⟩ ::⟨(some 14), .mv (.t 13), some (10, true)⟩ ::⟨(some 15), .ld 3 true (.t 3), some (14, false)⟩ ::⟨(some 16), .call (.c (.fn 17 [])) [(.t 15)], some (14, false)⟩ ::⟨(some 17), .ld 3 true (.t 3), some (14, false)⟩ ::⟨(some 18), .call (.c (.fn 18 [])) [(.t 17)], some (14, false)⟩ ::⟨(some 19), .beq false (.t 16) (.t 18), some (14, false)⟩ ::⟨(some 20), .mv (.t 19), some (14, false)⟩ ::⟨(some 21), .ld 3 true (.t 3), some (20, true)⟩ ::⟨(some 22), .call (.c (.fn 20 [])) [(.t 21)], some (20, true)⟩ ::⟨(some 23), .ld 3 true (.t 3), some (20, true)⟩ ::⟨(some 24), .call (.c (.fn 21 [])) [(.t 23)], some (20, true)⟩ ::⟨(some 25), .call (.c (.fn 19 [])) [(.t 22), (.t 24)], some (20, true)⟩ ::⟨(some 26), .pick (.t 20) (.t 25) (.c (.bool false)), some (14, false)⟩ ::⟨(some 27), .pick (.t 14) (.c (.bool true)) (.t 26), some (10, true)⟩ ::⟨(some 28), .pick (.t 10) (.t 27) (.c (.bool false)), none⟩ ::⟨(some 29), .mv (.t 28), none⟩ ::⟨(some 30), .ld 2 true (.t 4), some (29, true)⟩ ::⟨(some 31), .call (.c (.fn 23 [])) [(.t 30)], some (29, true)⟩ ::⟨(some 32), .ld 2 true (.t 4), some (29, true)⟩ ::⟨(some 33), .call (.c (.fn 24 [])) [(.t 32)], some (29, true)⟩ ::⟨(some 34), .call (.c (.fn 22 [])) [(.t 31), (.t 33)], some (29, true)⟩ ::⟨(some 35), .pick (.t 29) (.t 34) (.c (.bool false)), none⟩ ::⟨(some 36), .mv (.t 35), none⟩ ::⟨(some 37), .mv (.t 2), some (36, true)⟩ ::⟨(some 38), .call (.c (.fn 25 [])) [(.t 37)], some (36, true)⟩ ::⟨(some 39), .mv (.t 2), some (36, true)⟩ :: []) (⟨(some 40), .call (.c (.fn 26 [])) [(.t 39)], some (36, true)⟩ ::⟨(some 41), .call (.c (.fn 22 [])) [(.t 38), (.t 40)], some (36, true)⟩ ::⟨(some 42), .pick (.t 36) (.t 41) (.c (.bool false)), none⟩ ::⟨(some 6), .mv (.t 42), none⟩ :: [])) .ret)))
theorem cd_fretworklaw10_DevecOf : Code1 Try.prog 3 43 ir_fretworklaw10_DevecOf [.t 6] := ⟨Try.call3, _, _, Try.func3, rfl, by kernel_rfl, by kernel_rfl, by kernel_rfl, by kernel_rfl⟩

set_option maxHeartbeats 8000000 in
theorem fs_DevecOf (n : Int) (f : List Nat) (v : List Int) (m : Int) (l : List (Int × Int)) (k : Int) (hn : I64 n) (hw : Wd f) : FS Try.prog 3 [DV n f v, VC m l, .int .i64 k] (.bool true) := by
  refine fs_of_cvc mixed cd_fretworklaw10_DevecOf (by simp) ?_
  have f1 := fs_Few m l
  have e1 : (l.take 60).length ≤ 60 := by simp; omega
  generalize l.take 60 = a at *
  have c1 := fs_small n f v
  have c2 := fs_dOf m a (by omega)
  have c3 := fs_r10Of m a (by omega)
  have c4 := fs_sameV (okV m a)
  have c5 := fv_New k
  have c6 := fv_rNew k
  have c7 := fs_sameV (okV_nil (clipN_bd k).1 (clipN_bd k).2)
  by_cases hs : v.length ≤ 150 ∧ f.length ≤ 5
  · obtain ⟨s1, s2⟩ := hs
    rw [decide_eq_true s1, decide_eq_true s2] at c1
    have d1 := fs_dRight n f v hn hw (by omega) (by omega)
    have d2 := fs_r10Right n f v hn hw (by omega) (by omega)
    have d3 := fs_dBack n f v hn hw (by omega) (by omega)
    have d4 := fs_r10Back n f v hn hw (by omega) (by omega)
    have hok := okV_bkL (okD_dS n v hw)
    have d5 := fs_same9 (dS n f v).1 (bkL (dS n f v).2.1 (dS n f v).2.2) (by have := hok.le; omega)
    generalize bkL (dS n f v).2.1 (dS n f v).2.2 = B at *
    generalize (dS n f v).1 = N at *
    generalize dR n f v = R at *
    unfold dV at *
    generalize toF (sn m a) (sl m a) = F1 at *
    generalize toL (sn m a) (sl m a) = L1 at *
    generalize toF (clipN k) [] = F2 at *
    generalize toL (clipN k) [] = L2 at *
    repeat' (conv => whnf); first
      | ((refine Or.inl ⟨by rfl, _, f1, ?_⟩))
      | ((refine Or.inl ⟨by rfl, _, c1, ?_⟩))
      | ((refine Or.inl ⟨by rfl, _, fs_live10, ?_⟩))
      | ((refine Or.inl ⟨by rfl, _, d1, ?_⟩))
      | ((refine Or.inl ⟨by rfl, _, d2, ?_⟩))
      | ((refine Or.inl ⟨by rfl, _, d3, ?_⟩))
      | ((refine Or.inl ⟨by rfl, _, d4, ?_⟩))
      | ((refine Or.inl ⟨by rfl, _, d5, ?_⟩))
      | ((refine Or.inl ⟨by rfl, _, c2, ?_⟩))
      | ((refine Or.inl ⟨by rfl, _, c3, ?_⟩))
      | ((refine Or.inl ⟨by rfl, _, c4, ?_⟩))
      | ((refine Or.inl ⟨by rfl, _, c5, ?_⟩))
      | ((refine Or.inl ⟨by rfl, _, c6, ?_⟩))
      | ((refine Or.inl ⟨by rfl, _, c7, ?_⟩))
      | ((refine Br.beq (by rfl) ?_))
      | ((refine Br.bne (by rfl) ?_))
      | ((refine And.intro (Or.inl (Nat.zero_le _)) ?_))
      | ((refine And.intro (show _ ≤ _ from Nat.le_of_ble_eq_true rfl) ?_))
      | (refine Br.tt ?_)
      | (refine Br.ff ?_)
      | (refine Br.dec (fun h => ?_) (fun h => ?_)) <;> try (exfalso; omega)
      | (refine Br.neg ?_)
      | (refine Br.mk (fun h => ?_) (fun h => ?_))
      | (refine And.intro rfl ?_)
      | (refine And.intro (by omega) ?_)
      | (refine ⟨_, Or.inl ⟨⟨by omega, by omega⟩, rfl⟩, ?_⟩)
      | (refine And.intro (by simp only [lens_all, U_len, zs_len, its_len, ints_len]; first | done | omega) ?_)
      | (refine And.intro (Nat.le_refl _) ?_)
      | fail
    all_goals exact rfl
  · have hb : (decide (v.length ≤ 150) && decide (f.length ≤ 5)) = false := by
      rw [Bool.eq_false_iff, Ne, Bool.and_eq_true, decide_eq_true_eq, decide_eq_true_eq]; exact hs
    rw [hb] at c1
    unfold dV at *
    generalize toF (sn m a) (sl m a) = F1 at *
    generalize toL (sn m a) (sl m a) = L1 at *
    generalize toF (clipN k) [] = F2 at *
    generalize toL (clipN k) [] = L2 at *
    repeat' (conv => whnf); first
      | ((refine Or.inl ⟨by rfl, _, f1, ?_⟩))
      | ((refine Or.inl ⟨by rfl, _, c1, ?_⟩))
      | ((refine Or.inl ⟨by rfl, _, fs_live10, ?_⟩))
      | ((refine Or.inl ⟨by rfl, _, c2, ?_⟩))
      | ((refine Or.inl ⟨by rfl, _, c3, ?_⟩))
      | ((refine Or.inl ⟨by rfl, _, c4, ?_⟩))
      | ((refine Or.inl ⟨by rfl, _, c5, ?_⟩))
      | ((refine Or.inl ⟨by rfl, _, c6, ?_⟩))
      | ((refine Or.inl ⟨by rfl, _, c7, ?_⟩))
      | ((refine Br.beq (by rfl) ?_))
      | ((refine Br.bne (by rfl) ?_))
      | ((refine And.intro (Or.inl (Nat.zero_le _)) ?_))
      | ((refine And.intro (show _ ≤ _ from Nat.le_of_ble_eq_true rfl) ?_))
      | (refine Br.tt ?_)
      | (refine Br.ff ?_)
      | (refine Br.dec (fun h => ?_) (fun h => ?_)) <;> try (exfalso; omega)
      | (refine Br.neg ?_)
      | (refine Br.mk (fun h => ?_) (fun h => ?_))
      | (refine And.intro rfl ?_)
      | (refine And.intro (by omega) ?_)
      | (refine ⟨_, Or.inl ⟨⟨by omega, by omega⟩, rfl⟩, ?_⟩)
      | (refine And.intro (by simp only [lens_all, U_len, zs_len, its_len, ints_len]; first | done | omega) ?_)
      | (refine And.intro (Nat.le_refl _) ?_)
      | fail
    all_goals exact rfl

def ir_fretworklaw10_DevecBack : IR :=
(.seq (.reg (⟨(some 4), .mv (.c (.bool false)), none⟩ :: [])) (.seq (.reg (⟨(some 7), .mv (.t 0), none⟩ ::⟨(some 8), .mv (.t 1), none⟩ ::⟨(some 9), .call (.c (.fn 39 [])) [(.t 7), (.t 8)], none⟩ ::⟨(some 5), .al [.int .i64 0, .nils], none⟩ ::⟨none, .st 2 (.t 5) (.t 9), none⟩ :: [])) (.seq (.reg (⟨(some 10), .ld 2 true (.t 5), none⟩ ::⟨(some 11), .call (.c (.fn 23 [])) [(.t 10)], none⟩ ::⟨(some 6), .al [.int .i64 0, .nils, .nils], none⟩ ::⟨none, .st 3 (.t 6) (.t 11), none⟩ :: [])) (.seq (.draw (⟨(some 12), .call (.c (.fn 15 [])) [], none⟩ ::⟨(some 13), .mv (.t 12), none⟩ ::⟨(some 14), .ld 3 true (.t 6), some (13, true)⟩ ::⟨(some 15), .call (.c (.fn 17 [])) [(.t 14)], some (13, true)⟩ ::⟨(some 16), .pick (.t 13) (.t 15) (.c (.bool false)), none⟩ ::⟨(some 17), .mv (.t 16), none⟩ ::⟨(some 18), .ld 3 true (.t 6), some (17, true)⟩ ::⟨(some 19), .call (.c (.fn 20 [])) [(.t 18)], some (17, true)⟩ ::⟨(some 20), .ld 2 true (.t 5), some (17, true)⟩ ::⟨(some 21), .call (.c (.fn 19 [])) [(.t 19), (.t 20)], some (17, true)⟩ ::⟨(some 22), .pick (.t 17) (.t 21) (.c (.bool false)), none⟩ ::⟨(some 23), .mv (.t 22), none⟩ ::⟨(some 24), .ld 3 true (.t 6), some (23, true)⟩ ::⟨(some 25), .call (.c (.fn 20 [])) [(.t 24)], some (23, true)⟩ ::⟨(some 26), .call (.c (.fn 23 [])) [(.t 25)], some (23, true)⟩ ::⟨(some 27), .ld 3 true (.t 6), some (23, true)⟩ ::⟨(some 28), .call (.c (.fn 40 [])) [(.t 26), (.t 27)], some (23, true)⟩ ::⟨(some 29), .pick (.t 23) (.t 28) (.c (.bool false)), none⟩ ::⟨(some 30), .mv (.t 29), none⟩ ::⟨(some 31), .ld 3 true (.t 6), some (30, true)⟩ ::⟨(some 32), .call (.c (.fn 33 [])) [(.t 31)], some (30, true)⟩ ::⟨(some 33), .fa 1 (.t 5), some (30, true)⟩ ::⟨(some 34), .ld 1 false (.t 33), some (30, true)⟩ ::⟨(some 35), .ln (.t 34), some (30, true)⟩ :: []) (⟨(some 36), .bin .eql (.t 32) (.t 35), some (30, true)⟩ ::⟨(some 37), .pick (.t 30) (.t 36) (.c (.bool false)), none⟩ ::⟨(some 4), .mv (.t 37), none⟩ :: [])) .ret))))
theorem cd_fretworklaw10_DevecBack : Code1 Try.prog 5 38 ir_fretworklaw10_DevecBack [.t 4] := ⟨Try.call5, _, _, Try.func5, rfl, by kernel_rfl, by kernel_rfl, by kernel_rfl, by kernel_rfl⟩

set_option maxHeartbeats 8000000 in
theorem fs_DevecBack (n : Int) (l : List (Int × Int)) (hn : 0 ≤ n ∧ n ≤ 255) (hb : Ib l) : FS Try.prog 5 [.int .u8 n, IL l] (.bool true) := by
  refine fs_of_cvc mixed cd_fretworklaw10_DevecBack (by simp) ?_
  have ct1 := fs_Some n l hn hb
  obtain ⟨a, ea, ha, ia, la⟩ := sm_ok hn hb
  rw [ea] at ct1
  generalize n.tmod 60 = K at *
  have hal := its_len a
  have c1 := fv_Of ha
  have c2 := fv_Right ha
  have c3 := fv_Back ha
  have c4 := fs_same9 K a (by omega)
  have c5 := fv_Same ha
  have c6 := fv_Count ha
  rw [← hal] at c6
  unfold dV at *
  generalize toF K a = F1 at *
  generalize toL K a = L1 at *
  repeat' (conv => whnf); first
    | ((refine Or.inl ⟨by rfl, _, ct1, ?_⟩))
    | ((refine Or.inl ⟨by rfl, _, c1, ?_⟩))
    | ((refine Or.inl ⟨by rfl, _, fs_live10, ?_⟩))
    | ((refine Or.inl ⟨by rfl, _, c2, ?_⟩))
    | ((refine Or.inl ⟨by rfl, _, c3, ?_⟩))
    | ((refine Or.inl ⟨by rfl, _, c4, ?_⟩))
    | ((refine Or.inl ⟨by rfl, _, c5, ?_⟩))
    | ((refine Or.inl ⟨by rfl, _, c6, ?_⟩))
    | ((refine Br.beq (by rfl) ?_))
    | ((refine Br.bne (by rfl) ?_))
    | ((refine And.intro (Or.inl (Nat.zero_le _)) ?_))
    | ((refine And.intro (show _ ≤ _ from Nat.le_of_ble_eq_true rfl) ?_))
    | (refine Br.tt ?_)
    | (refine Br.ff ?_)
    | (refine Br.dec (fun h => ?_) (fun h => ?_)) <;> try (exfalso; omega)
    | (refine Br.neg ?_)
    | (refine Br.mk (fun h => ?_) (fun h => ?_))
    | (refine And.intro rfl ?_)
    | (refine And.intro (by omega) ?_)
    | (refine ⟨_, Or.inl ⟨⟨by omega, by omega⟩, rfl⟩, ?_⟩)
    | (refine And.intro (by simp only [lens_all, U_len, zs_len, its_len, ints_len]; first | done | omega) ?_)
    | (refine And.intro (Nat.le_refl _) ?_)
    | fail
  all_goals first
    | exact rfl
    | (show SV.bool (decide _) = SV.bool true; simp; done)

theorem hasI_flip {f : List Nat} (hw : Wd f) {n k : Int} (hn : n ≤ 4096) (h0 : 0 ≤ k) (h1 : k < n) : hasI (flipR f n) k = !hasI f k := by
  obtain ⟨i, rfl⟩ : ∃ i : Nat, k = i := ⟨k.toNat, by omega⟩
  rw [← flipN_eq hw, hasI_nat, hasI_nat, hasN_flipN hw, decide_eq_true h1, decide_eq_true (show i < 64 * wordsI n by unfold wordsI; omega)]
  rfl

def ir_fretworklaw10_DevecOnly : IR :=
(.seq (.reg (⟨(some 6), .mv (.c (.bool false)), none⟩ :: [])) (.seq (.seq (.reg (⟨(some 17), .mv (.t 2), none⟩ ::⟨(some 18), .ln (.t 17), none⟩ ::⟨(some 19), .bin .gtr (.t 18) (.c (.int .i64 5)), none⟩ :: [])) (.cond (.t 19) (.seq (.reg (⟨(some 20), .call (.c (.fn 15 [])) [], none⟩ ::⟨(some 6), .mv (.t 20), none⟩ :: [])) .ret) .skip)) (.seq (.reg (⟨(some 21), .mv (.t 0), none⟩ ::⟨(some 22), .mv (.t 1), none⟩ ::⟨(some 23), .call (.c (.fn 39 [])) [(.t 21), (.t 22)], none⟩ ::⟨(some 24), .call (.c (.fn 23 [])) [(.t 23)], none⟩ ::⟨(some 7), .al [.int .i64 0, .nils, .nils], none⟩ ::⟨none, .st 3 (.t 7) (.t 24), none⟩ :: [])) (.seq (.draw (⟨(some 25), .ld 3 true (.t 7), none⟩ ::⟨(some 26), .mv (.t 2), none⟩ ::⟨(some 27), .call (.c (.fn 35 [])) [(.t 25), (.t 26)], none⟩ ::⟨(some 28), .ld 3 true (.t 7), none⟩ ::⟨(some 29), .mv (.t 2), none⟩ ::⟨(some 30), .fa 0 (.t 7), none⟩ ::⟨(some 31), .ld 1 false (.t 30), none⟩ ::⟨(some 32), .call (.c (.fn 41 [])) [(.t 29), (.t 31)], none⟩ ::⟨(some 33), .call (.c (.fn 35 [])) [(.t 28), (.t 32)], none⟩ ::⟨(some 8), .al [.int .i64 0, .nils, .nils], none⟩ ::⟨(some 9), .al [.int .i64 0, .nils, .nils], none⟩ :: []) (⟨none, .st 3 (.t 8) (.t 27), none⟩ ::⟨none, .st 3 (.t 9) (.t 33), none⟩ :: [])) (.seq (.seq (.reg (⟨(some 10), .mv (.c (.int .i64 0)), none⟩ :: [])) (.block 0 (.loop (.seq (.seq (.reg (⟨(some 34), .mv (.t 10), none⟩ ::⟨(some 35), .fa 0 (.t 7), none⟩ ::⟨(some 36), .ld 1 false (.t 35), none⟩ ::⟨(some 37), .bin .lss (.t 34) (.t 36), none⟩ :: [])) (.cond (.t 37) .skip (.exit 0))) (.seq (.block 1 (.seq (.reg (⟨(some 41), .ld 3 true (.t 7), none⟩ ::⟨(some 42), .mv (.t 10), none⟩ ::⟨(some 43), .call (.c (.fn 27 [])) [(.t 41), (.t 42)], none⟩ ::⟨(some 40), .mv (.t 43), none⟩ ::⟨(some 44), .ex 0 (.t 40), none⟩ ::⟨(some 45), .ex 1 (.t 40), none⟩ ::⟨(some 11), .mv (.t 44), none⟩ ::⟨(some 12), .mv (.t 45), none⟩ :: [])) (.seq (.reg (⟨(some 47), .ld 3 true (.t 8), none⟩ ::⟨(some 48), .mv (.t 10), none⟩ ::⟨(some 49), .call (.c (.fn 27 [])) [(.t 47), (.t 48)], none⟩ ::⟨(some 46), .mv (.t 49), none⟩ ::⟨(some 50), .ex 0 (.t 46), none⟩ ::⟨(some 51), .ex 1 (.t 46), none⟩ ::⟨(some 13), .mv (.t 50), none⟩ ::⟨(some 14), .mv (.t 51), none⟩ :: [])) (.seq (.reg (⟨(some 53), .ld 3 true (.t 9), none⟩ ::⟨(some 54), .mv (.t 10), none⟩ ::⟨(some 55), .call (.c (.fn 27 [])) [(.t 53), (.t 54)], none⟩ ::⟨(some 52), .mv (.t 55), none⟩ ::⟨(some 56), .ex 0 (.t 52), none⟩ ::⟨(some 57), .ex 1 (.t 52), none⟩ ::⟨(some 15), .mv (.t 56), none⟩ ::⟨(some 16), .mv (.t 57), none⟩ :: [])) (.seq (.reg (⟨(some 58), .mv (.t 14), none⟩ ::⟨(some 59), .mv (.t 58), none⟩ ::⟨(some 60), .mv (.t 16), some (59, true)⟩ ::⟨(some 61), .pick (.t 59) (.t 60) (.c (.bool false)), none⟩ ::⟨(some 62), .mv (.t 61), none⟩ ::⟨(some 63), .mv (.t 12), some (62, false)⟩ ::⟨(some 64), .mv (.t 14), some (62, false)⟩ ::⟨(some 65), .mv (.t 64), some (62, false)⟩ ::⟨(some 66), .mv (.t 16), some (65, false)⟩ ::⟨(some 67), .pick (.t 65) (.c (.bool true)) (.t 66), some (62, false)⟩ ::⟨(some 68), .beq true (.t 63) (.t 67), some (62, false)⟩ ::⟨(some 69), .pick (.t 62) (.c (.bool true)) (.t 68), none⟩ ::⟨(some 70), .mv (.t 69), none⟩ ::⟨(some 71), .mv (.t 11), some (70, false)⟩ ::⟨(some 72), .mv (.t 13), some (70, false)⟩ ::⟨(some 73), .mv (.t 15), some (70, false)⟩ ::⟨(some 74), .bin .add (.t 72) (.t 73), some (70, false)⟩ ::⟨(some 75), .bin .neq (.t 71) (.t 74), some (70, false)⟩ ::⟨(some 76), .pick (.t 70) (.c (.bool true)) (.t 75), none⟩ :: [])) (.cond (.t 76) (.seq (.reg (⟨(some 6), .mv (.c (.bool false)), none⟩ :: [])) .ret) .skip)))))) (.reg (⟨(some 38), .mv (.t 10), none⟩ ::⟨(some 39), .bin .add (.t 38) (.c (.int .i64 1)), none⟩ ::⟨(some 10), .mv (.t 39), none⟩ :: []))))))) (.seq (.draw (⟨(some 77), .call (.c (.fn 15 [])) [], none⟩ ::⟨(some 78), .mv (.t 77), none⟩ ::⟨(some 79), .ld 3 true (.t 8), some (78, true)⟩ ::⟨(some 80), .call (.c (.fn 33 [])) [(.t 79)], some (78, true)⟩ ::⟨(some 81), .ld 3 true (.t 9), some (78, true)⟩ ::⟨(some 82), .call (.c (.fn 33 [])) [(.t 81)], some (78, true)⟩ ::⟨(some 83), .bin .add (.t 80) (.t 82), some (78, true)⟩ ::⟨(some 84), .ld 3 true (.t 7), some (78, true)⟩ ::⟨(some 85), .call (.c (.fn 33 [])) [(.t 84)], some (78, true)⟩ :: []) (⟨(some 86), .bin .eql (.t 83) (.t 85), some (78, true)⟩ ::⟨(some 87), .pick (.t 78) (.t 86) (.c (.bool false)), none⟩ ::⟨(some 6), .mv (.t 87), none⟩ :: [])) .ret))))))
theorem cd_fretworklaw10_DevecOnly : Code1 Try.prog 6 88 ir_fretworklaw10_DevecOnly [.t 6] := ⟨Try.call6, _, _, Try.func6, rfl, by kernel_rfl, by kernel_rfl, by kernel_rfl, by kernel_rfl⟩

set_option maxHeartbeats 8000000 in
theorem fs_DevecOnly (n : Int) (l : List (Int × Int)) (f : List Nat) (hn : 0 ≤ n ∧ n ≤ 255) (hb : Ib l) (hw : Wd f) : FS Try.prog 6 [.int .u8 n, IL l, U f] (.bool true) := by
  refine fs_of_cvc mixed cd_fretworklaw10_DevecOnly (by simp) ?_
  have hfl := U_len f
  by_cases h5 : 5 < f.length
  · repeat' (conv => whnf); first
      | ((refine Or.inl ⟨by rfl, _, fs_live10, ?_⟩))
      | ((refine Br.beq (by rfl) ?_))
      | ((refine Br.bne (by rfl) ?_))
      | ((refine And.intro (Or.inl (Nat.zero_le _)) ?_))
      | ((refine And.intro (show _ ≤ _ from Nat.le_of_ble_eq_true rfl) ?_))
      | (refine Br.tt ?_)
      | (refine Br.ff ?_)
      | (refine Br.dec (fun h => ?_) (fun h => ?_)) <;> try (exfalso; omega)
      | (refine Br.neg ?_)
      | (refine Br.mk (fun h => ?_) (fun h => ?_))
      | (refine And.intro rfl ?_)
      | (refine And.intro (by omega) ?_)
      | (refine ⟨_, Or.inl ⟨⟨by omega, by omega⟩, rfl⟩, ?_⟩)
      | (refine And.intro (by simp only [lens_all, U_len, zs_len, its_len, ints_len]; first | done | omega) ?_)
      | (refine And.intro (Nat.le_refl _) ?_)
      | fail
    all_goals exact rfl
  have ct1 := fs_Some n l hn hb
  obtain ⟨a, ea, ha, ia, la⟩ := sm_ok hn hb
  rw [ea] at ct1
  generalize n.tmod 60 = K at *
  have hK0 := ha.n0
  have hK1 := ha.n1
  have c1 := fv_Of ha
  have c2 := fv_Only ha f hw (by omega)
  have c3 := fs_rFlip f hw (by omega) K (by omega) (by omega)
  have hgl : (flipR f K).length ≤ 1000000 := by
    rw [← flipN_eq hw, flipN_len]; unfold wordsI; omega
  have hgw : Wd (flipR f K) := by rw [← flipN_eq hw]; exact wd_flipN f K
  have c4 := fv_Only ha (flipR f K) hgw hgl
  have hflt : (a.filter fun x => hasI (flipR f K) x.1) = a.filter fun x => !hasI f x.1 := List.filter_congr fun x hx => hasI_flip hw hK1 (ha.lo x hx).1 (ha.lo x hx).2
  rw [hflt] at c4
  generalize flipR f K = g at *
  have hp1 := ha.filt fun x => hasI f x.1
  have hp2 := ha.filt fun x => !hasI f x.1
  have g0 := fun p hp => fv_Get ha p hp
  have g1 := fun p hp => fv_Get hp1 p hp
  have g2 := fun p hp => fv_Get hp2 p hp
  have k0 := fv_Count ha
  have k1 := fv_Count hp1
  have k2 := fv_Count hp2
  have hlen := parts_len (fun x => hasI f x.1) a
  have hle := ha.le
  have gg1 : ∀ p, gt (a.filter fun x => hasI f x.1) p = (gt a p).bind fun v => if hasI f p = true then some v else none := fun p => gt_filt ha.up p
  have gg2 : ∀ p, gt (a.filter fun x => !hasI f x.1) p = (gt a p).bind fun v => if (!hasI f p) = true then some v else none := fun p => gt_filt ha.up p
  have hgt : ∀ p v, gt a p = some v → I64 v := fun p v h => (ia _ (gt_mem h)).2
  unfold dV at *
  generalize (a.filter fun x => hasI f x.1).length = m1 at *
  generalize (a.filter fun x => !hasI f x.1).length = m2 at *
  generalize toF K a = F0 at *
  generalize toL K a = L0 at *
  generalize toF K (a.filter fun x => hasI f x.1) = F1 at *
  generalize toL K (a.filter fun x => hasI f x.1) = L1 at *
  generalize toF K (a.filter fun x => !hasI f x.1) = F2 at *
  generalize toL K (a.filter fun x => !hasI f x.1) = L2 at *
  repeat' (conv => whnf); first
    | ((refine Or.inl ⟨by rfl, _, ct1, ?_⟩))
    | ((refine Or.inl ⟨by rfl, _, c1, ?_⟩))
    | ((refine Or.inl ⟨by rfl, _, c2, ?_⟩))
    | ((refine Or.inl ⟨by rfl, _, c3, ?_⟩))
    | ((refine Or.inl ⟨by rfl, _, c4, ?_⟩))
    | ((refine Br.beq (by rfl) ?_))
    | ((refine Br.bne (by rfl) ?_))
    | ((refine And.intro (Or.inl (Nat.zero_le _)) ?_))
    | ((refine And.intro (show _ ≤ _ from Nat.le_of_ble_eq_true rfl) ?_))
    | (refine Br.tt ?_)
    | (refine Br.ff ?_)
    | (refine Br.dec (fun h => ?_) (fun h => ?_)) <;> try (exfalso; omega)
    | (refine Br.neg ?_)
    | (refine Br.mk (fun h => ?_) (fun h => ?_))
    | (refine And.intro rfl ?_)
    | (refine And.intro (by omega) ?_)
    | (refine ⟨_, Or.inl ⟨⟨by omega, by omega⟩, rfl⟩, ?_⟩)
    | (refine And.intro (by simp only [lens_all, U_len, zs_len, its_len, ints_len]; first | done | omega) ?_)
    | (refine And.intro (Nat.le_refl _) ?_)
    | fail
  refine ⟨Nat, fun j => (j : Int) ≤ K, fun j => [(6, .bool false), (7, .ptr 0 0 0 0), (8, .ptr 1 0 0 0), (9, .ptr 2 0 0 0), (10, .int .i64 (j : Int))], fun _ => [.vars [.int .i64 K, U F0, Z L0], .vars [.int .i64 K, U F1, Z L1], .vars [.int .i64 K, U F2, Z L2]], fun _ => none, fun j => K.toNat - j,
    ⟨0, hK0, ⟨rfl, rfl, rfl, rfl, rfl, trivial⟩, ⟨⟨rfl, rfl, rfl, trivial⟩, ⟨rfl, rfl, rfl, trivial⟩, ⟨rfl, rfl, rfl, trivial⟩, trivial⟩, rfl⟩, fun j hj => ?_⟩
  have hj : (j : Int) ≤ K := hj
  by_cases hjK : (j : Int) < K
  · have hji : I64 (j : Int) := by unfold I64; omega
    have q0 := g0 (j : Int) hji
    have q1 := g1 (j : Int) hji
    have q2 := g2 (j : Int) hji
    rw [gg1] at q1
    rw [gg2] at q2
    cases hg : gt a (j : Int) with
    | none =>
      rw [hg] at q0 q1 q2
      have q0' : FS Try.prog 27 [DV K F0 L0, .int .i64 (j : Int)] (.tup [.int .i64 0, .bool false]) := q0
      have q1' : FS Try.prog 27 [DV K F1 L1, .int .i64 (j : Int)] (.tup [.int .i64 0, .bool false]) := q1
      have q2' : FS Try.prog 27 [DV K F2 L2, .int .i64 (j : Int)] (.tup [.int .i64 0, .bool false]) := q2
      repeat' (conv => whnf); first
        | ((refine Or.inl ⟨by rfl, _, q0', ?_⟩))
        | ((refine Or.inl ⟨by rfl, _, q1', ?_⟩))
        | ((refine Or.inl ⟨by rfl, _, q2', ?_⟩))
        | ((refine Br.beq (by rfl) ?_))
        | ((refine Br.bne (by rfl) ?_))
        | ((refine And.intro (Or.inl (Nat.zero_le _)) ?_))
        | ((refine And.intro (show _ ≤ _ from Nat.le_of_ble_eq_true rfl) ?_))
        | (refine Br.tt ?_)
        | (refine Br.ff ?_)
        | (refine Br.dec (fun h => ?_) (fun h => ?_)) <;> try (exfalso; omega)
        | (refine Br.neg ?_)
        | (refine Br.mk (fun h => ?_) (fun h => ?_))
        | (refine And.intro rfl ?_)
        | (refine And.intro (by omega) ?_)
        | (refine ⟨_, Or.inl ⟨⟨by omega, by omega⟩, rfl⟩, ?_⟩)
        | (refine And.intro (by simp only [lens_all, U_len, zs_len, its_len, ints_len]; first | done | omega) ?_)
        | (refine And.intro (Nat.le_refl _) ?_)
        | fail
      exact ⟨j + 1, (show ((j + 1 : Nat) : Int) ≤ K by omega), (show K.toNat - (j + 1) < K.toNat - j by omega), ⟨rfl, rfl, rfl, rfl, rfl, trivial⟩, ⟨⟨rfl, rfl, rfl, trivial⟩, ⟨rfl, rfl, rfl, trivial⟩, ⟨rfl, rfl, rfl, trivial⟩, trivial⟩, rfl⟩
    | some v =>
      have hv := hgt _ _ hg
      unfold I64 at hv
      rw [hg] at q0 q1 q2
      cases hf : hasI f (j : Int) with
      | true =>
        rw [hf] at q1 q2
        have q0' : FS Try.prog 27 [DV K F0 L0, .int .i64 (j : Int)] (.tup [.int .i64 v, .bool true]) := q0
        have q1' : FS Try.prog 27 [DV K F1 L1, .int .i64 (j : Int)] (.tup [.int .i64 v, .bool true]) := q1
        have q2' : FS Try.prog 27 [DV K F2 L2, .int .i64 (j : Int)] (.tup [.int .i64 0, .bool false]) := q2
        repeat' (conv => whnf); first
          | ((refine Or.inl ⟨by rfl, _, q0', ?_⟩))
          | ((refine Or.inl ⟨by rfl, _, q1', ?_⟩))
          | ((refine Or.inl ⟨by rfl, _, q2', ?_⟩))
          | ((refine ⟨v, Or.inl ⟨hv, by omega⟩, ?_⟩))
          | ((refine Br.beq (by rfl) ?_))
          | ((refine Br.bne (by rfl) ?_))
          | ((refine And.intro (Or.inl (Nat.zero_le _)) ?_))
          | ((refine And.intro (show _ ≤ _ from Nat.le_of_ble_eq_true rfl) ?_))
          | (refine Br.tt ?_)
          | (refine Br.ff ?_)
          | (refine Br.dec (fun h => ?_) (fun h => ?_)) <;> try (exfalso; omega)
          | (refine Br.neg ?_)
          | (refine Br.mk (fun h => ?_) (fun h => ?_))
          | (refine And.intro rfl ?_)
          | (refine And.intro (by omega) ?_)
          | (refine ⟨_, Or.inl ⟨⟨by omega, by omega⟩, rfl⟩, ?_⟩)
          | (refine And.intro (by simp only [lens_all, U_len, zs_len, its_len, ints_len]; first | done | omega) ?_)
          | (refine And.intro (Nat.le_refl _) ?_)
          | fail
        exact ⟨j + 1, (show ((j + 1 : Nat) : Int) ≤ K by omega), (show K.toNat - (j + 1) < K.toNat - j by omega), ⟨rfl, rfl, rfl, rfl, rfl, trivial⟩, ⟨⟨rfl, rfl, rfl, trivial⟩, ⟨rfl, rfl, rfl, trivial⟩, ⟨rfl, rfl, rfl, trivial⟩, trivial⟩, rfl⟩
      | false =>
        rw [hf] at q1 q2
        have q0' : FS Try.prog 27 [DV K F0 L0, .int .i64 (j : Int)] (.tup [.int .i64 v, .bool true]) := q0
        have q1' : FS Try.prog 27 [DV K F1 L1, .int .i64 (j : Int)] (.tup [.int .i64 0, .bool false]) := q1
        have q2' : FS Try.prog 27 [DV K F2 L2, .int .i64 (j : Int)] (.tup [.int .i64 v, .bool true]) := q2
        repeat' (conv => whnf); first
          | ((refine Or.inl ⟨by rfl, _, q0', ?_⟩))
          | ((refine Or.inl ⟨by rfl, _, q1', ?_⟩))
          | ((refine Or.inl ⟨by rfl, _, q2', ?_⟩))
          | ((refine ⟨v, Or.inl ⟨hv, by omega⟩, ?_⟩))
          | ((refine Br.beq (by rfl) ?_))
          | ((refine Br.bne (by rfl) ?_))
          | ((refine And.intro (Or.inl (Nat.zero_le _)) ?_))
          | ((refine And.intro (show _ ≤ _ from Nat.le_of_ble_eq_true rfl) ?_))
          | (refine Br.tt ?_)
          | (refine Br.ff ?_)
          | (refine Br.dec (fun h => ?_) (fun h => ?_)) <;> try (exfalso; omega)
          | (refine Br.neg ?_)
          | (refine Br.mk (fun h => ?_) (fun h => ?_))
          | (refine And.intro rfl ?_)
          | (refine And.intro (by omega) ?_)
          | (refine ⟨_, Or.inl ⟨⟨by omega, by omega⟩, rfl⟩, ?_⟩)
          | (refine And.intro (by simp only [lens_all, U_len, zs_len, its_len, ints_len]; first | done | omega) ?_)
          | (refine And.intro (Nat.le_refl _) ?_)
          | fail
        exact ⟨j + 1, (show ((j + 1 : Nat) : Int) ≤ K by omega), (show K.toNat - (j + 1) < K.toNat - j by omega), ⟨rfl, rfl, rfl, rfl, rfl, trivial⟩, ⟨⟨rfl, rfl, rfl, trivial⟩, ⟨rfl, rfl, rfl, trivial⟩, ⟨rfl, rfl, rfl, trivial⟩, trivial⟩, rfl⟩
  · repeat' (conv => whnf); first
      | ((refine Or.inl ⟨by rfl, _, k0, ?_⟩))
      | ((refine Or.inl ⟨by rfl, _, k1, ?_⟩))
      | ((refine Or.inl ⟨by rfl, _, k2, ?_⟩))
      | ((refine Or.inl ⟨by rfl, _, fs_live10, ?_⟩))
      | ((refine Br.beq (by rfl) ?_))
      | ((refine Br.bne (by rfl) ?_))
      | ((refine And.intro (Or.inl (Nat.zero_le _)) ?_))
      | ((refine And.intro (show _ ≤ _ from Nat.le_of_ble_eq_true rfl) ?_))
      | (refine Br.tt ?_)
      | (refine Br.ff ?_)
      | (refine Br.dec (fun h => ?_) (fun h => ?_)) <;> try (exfalso; omega)
      | (refine Br.neg ?_)
      | (refine Br.mk (fun h => ?_) (fun h => ?_))
      | (refine And.intro rfl ?_)
      | (refine And.intro (by omega) ?_)
      | (refine ⟨_, Or.inl ⟨⟨by omega, by omega⟩, rfl⟩, ?_⟩)
      | (refine And.intro (by simp only [lens_all, U_len, zs_len, its_len, ints_len]; first | done | omega) ?_)
      | (refine And.intro (Nat.le_refl _) ?_)
      | fail
    show SV.bool (decide _) = SV.bool true
    rw [decide_eq_true (by omega)]
end
end Go.Proofs.Ytahpfomabgfmkaa
