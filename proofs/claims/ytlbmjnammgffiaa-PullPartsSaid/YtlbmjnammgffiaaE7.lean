/- Any rows of a matrix, apart from the others. -/
import Derived.Test.YtlbmjnammgffiaaE5
namespace Go.Proofs.Ytlbmjnammgffiaa
section
open Go.RowKit
attribute [local irreducible] FS FO IT HS
def ir_fretworklaw13_PullParts : IR :=
(.seq (.reg (⟨(some 1), .bx (.t 0), none⟩ ::⟨(some 2), .mv (.c (.bool false)), none⟩ :: [])) (.seq (.reg (⟨(some 18), .fa 0 (.t 1), none⟩ ::⟨(some 19), .ld 1 false (.t 18), none⟩ ::⟨(some 20), .call (.c (.fn 11 [])) [(.t 19)], none⟩ ::⟨(some 3), .mv (.t 20), none⟩ :: [])) (.seq (.draw (⟨(some 21), .ld 8 true (.t 1), none⟩ ::⟨(some 22), .call (.c (.fn 12 [])) [(.t 21)], none⟩ ::⟨(some 23), .ld 8 true (.t 1), none⟩ ::⟨(some 24), .fa 4 (.t 1), none⟩ ::⟨(some 25), .ld 1 false (.t 24), none⟩ ::⟨(some 26), .call (.c (.fn 13 [])) [(.t 23), (.t 25)], none⟩ ::⟨(some 27), .call (.c (.fn 16 [])) [(.t 26)], none⟩ ::⟨(some 28), .ld 8 true (.t 1), none⟩ ::⟨(some 29), .call (.c (.fn 20 [])) [(.t 28)], none⟩ ::⟨(some 4), .al [.int .i64 0, .int .i64 0, .nils, .nils, .nils], none⟩ ::⟨(some 5), .al [.int .i64 0, .nils, .nils], none⟩ :: []) (⟨none, .st 5 (.t 4) (.t 22), none⟩ ::⟨none, .st 3 (.t 5) (.t 27), none⟩ ::⟨(some 6), .mv (.t 29), none⟩ :: [])) (.seq (.reg (⟨(some 31), .mv (.t 3), none⟩ ::⟨(some 32), .ld 5 true (.t 4), none⟩ ::⟨(some 33), .ld 3 true (.t 5), none⟩ ::⟨(some 34), .mv (.t 6), none⟩ ::⟨(some 35), .call (.c (.fn 8 [])) [(.t 31), (.t 32), (.t 33), (.t 34), (.c (.bool false))], none⟩ ::⟨(some 30), .mv (.t 35), none⟩ ::⟨(some 36), .ex 0 (.t 30), none⟩ ::⟨(some 37), .ex 1 (.t 30), none⟩ ::⟨(some 7), .mv (.t 36), none⟩ ::⟨(some 8), .mv (.t 37), none⟩ :: [])) (.seq (.reg (⟨(some 39), .mv (.t 3), none⟩ ::⟨(some 40), .ld 5 true (.t 4), none⟩ ::⟨(some 41), .ld 3 true (.t 5), none⟩ ::⟨(some 42), .mv (.t 6), none⟩ ::⟨(some 43), .call (.c (.fn 8 [])) [(.t 39), (.t 40), (.t 41), (.t 42), (.c (.bool true))], none⟩ ::⟨(some 38), .mv (.t 43), none⟩ ::⟨(some 44), .ex 0 (.t 38), none⟩ ::⟨(some 45), .ex 1 (.t 38), none⟩ ::⟨(some 9), .mv (.t 44), none⟩ ::⟨(some 10), .mv (.t 45), none⟩ :: [])) (.seq (.reg (⟨(some 47), .mv (.t 3), none⟩ ::⟨(some 48), .ld 5 true (.t 4), none⟩ ::⟨(some 49), .ld 3 true (.t 5), none⟩ ::⟨(some 50), .call (.c (.fn 8 [])) [(.t 47), (.t 48), (.t 49), (.c (.nils)), (.c (.bool true))], none⟩ ::⟨(some 46), .mv (.t 50), none⟩ ::⟨(some 51), .ex 0 (.t 46), none⟩ ::⟨(some 52), .ex 1 (.t 46), none⟩ ::⟨(some 11), .mv (.t 51), none⟩ ::⟨(some 12), .mv (.t 52), none⟩ :: [])) (.seq (.draw (⟨(some 54), .mv (.t 3), none⟩ ::⟨(some 55), .ld 5 true (.t 4), none⟩ ::⟨(some 56), .fa 1 (.t 4), none⟩ ::⟨(some 57), .ld 1 false (.t 56), none⟩ ::⟨(some 58), .call (.c (.fn 21 [])) [(.t 57)], none⟩ ::⟨(some 59), .call (.c (.fn 8 [])) [(.t 54), (.t 55), (.t 58), (.c (.nils)), (.c (.bool true))], none⟩ ::⟨(some 53), .mv (.t 59), none⟩ ::⟨(some 60), .ex 0 (.t 53), none⟩ ::⟨(some 61), .ex 1 (.t 53), none⟩ ::⟨(some 13), .mv (.t 60), none⟩ :: []) (⟨(some 14), .mv (.t 61), none⟩ :: [])) (.seq (.seq (.reg (⟨(some 62), .mv (.t 8), none⟩ ::⟨(some 63), .bin .neq (.t 62) (.c (.int .i64 0)), none⟩ ::⟨(some 64), .mv (.t 63), none⟩ ::⟨(some 65), .mv (.t 10), some (64, false)⟩ ::⟨(some 66), .bin .neq (.t 65) (.c (.int .i64 0)), some (64, false)⟩ ::⟨(some 67), .pick (.t 64) (.c (.bool true)) (.t 66), none⟩ ::⟨(some 68), .mv (.t 67), none⟩ ::⟨(some 69), .mv (.t 12), some (68, false)⟩ ::⟨(some 70), .bin .neq (.t 69) (.c (.int .i64 0)), some (68, false)⟩ ::⟨(some 71), .pick (.t 68) (.c (.bool true)) (.t 70), none⟩ ::⟨(some 72), .mv (.t 71), none⟩ ::⟨(some 73), .mv (.t 14), some (72, false)⟩ ::⟨(some 74), .bin .neq (.t 73) (.c (.int .i64 0)), some (72, false)⟩ ::⟨(some 75), .pick (.t 72) (.c (.bool true)) (.t 74), none⟩ ::⟨(some 76), .mv (.t 75), none⟩ ::⟨(some 77), .mv (.t 7), some (76, false)⟩ ::⟨(some 78), .ln (.t 77), some (76, false)⟩ ::⟨(some 79), .mv (.t 9), some (76, false)⟩ ::⟨(some 80), .ln (.t 79), some (76, false)⟩ ::⟨(some 81), .bin .add (.t 78) (.t 80), some (76, false)⟩ ::⟨(some 82), .mv (.t 11), some (76, false)⟩ ::⟨(some 83), .ln (.t 82), some (76, false)⟩ ::⟨(some 84), .bin .neq (.t 81) (.t 83), some (76, false)⟩ ::⟨(some 85), .pick (.t 76) (.c (.bool true)) (.t 84), none⟩ ::⟨(some 86), .mv (.t 85), none⟩ ::⟨(some 87), .mv (.t 13), some (86, false)⟩ ::⟨(some 88), .ln (.t 87), some (86, false)⟩ ::⟨(some 89), .bin .neq (.t 88) (.c (.int .i64 0)), some (86, false)⟩ ::⟨(some 90), .pick (.t 86) (.c (.bool true)) (.t 89), none⟩ :: [])) (.cond (.t 90) (.seq (.reg (⟨(some 2), .mv (.c (.bool false)), none⟩ :: [])) .ret) .skip)) (.seq (.reg (⟨(some 15), .mv (.c (.int .i64 0)), none⟩ ::⟨(some 16), .mv (.c (.int .i64 0)), none⟩ :: [])) (.seq (.seq (.reg (⟨(some 17), .mv (.c (.int .i64 0)), none⟩ :: [])) (.block 0 (.loop (.seq (.seq (.reg (⟨(some 91), .mv (.t 17), none⟩ ::⟨(some 92), .mv (.t 11), none⟩ ::⟨(some 93), .ln (.t 92), none⟩ ::⟨(some 94), .bin .lss (.t 91) (.t 93), none⟩ :: [])) (.cond (.t 94) .skip (.exit 0))) (.seq (.block 1 (.block 2 (.seq (.draw (⟨(some 98), .mv (.t 15), none⟩ ::⟨(some 99), .mv (.t 7), none⟩ ::⟨(some 100), .ln (.t 99), none⟩ ::⟨(some 101), .bin .lss (.t 98) (.t 100), none⟩ ::⟨(some 102), .mv (.t 101), none⟩ ::⟨(some 103), .mv (.t 7), some (102, true)⟩ ::⟨(some 104), .mv (.t 15), some (102, true)⟩ ::⟨(some 105), .ia 3 (.t 103) (.t 104), some (102, true)⟩ ::⟨(some 106), .ld 3 true (.t 105), some (102, true)⟩ ::⟨(some 107), .mv (.t 11), some (102, true)⟩ ::⟨(some 108), .mv (.t 17), some (102, true)⟩ ::⟨(some 109), .ia 3 (.t 107) (.t 108), some (102, true)⟩ ::⟨(some 110), .ld 3 true (.t 109), some (102, true)⟩ :: []) (⟨(some 111), .eqv false 62 (.t 106) (.t 110), some (102, true)⟩ ::⟨(some 112), .pick (.t 102) (.t 111) (.c (.bool false)), none⟩ ::⟨(some 97), .mv (.t 112), none⟩ :: [])) (.cond (.t 97) (.reg (⟨(some 113), .mv (.t 15), none⟩ ::⟨(some 114), .bin .add (.t 113) (.c (.int .i64 1)), none⟩ ::⟨(some 15), .mv (.t 114), none⟩ :: [])) (.seq (.draw (⟨(some 116), .mv (.t 16), none⟩ ::⟨(some 117), .mv (.t 9), none⟩ ::⟨(some 118), .ln (.t 117), none⟩ ::⟨(some 119), .bin .lss (.t 116) (.t 118), none⟩ ::⟨(some 120), .mv (.t 119), none⟩ ::⟨(some 121), .mv (.t 9), some (120, true)⟩ ::⟨(some 122), .mv (.t 16), some (120, true)⟩ ::⟨(some 123), .ia 3 (.t 121) (.t 122), some (120, true)⟩ ::⟨(some 124), .ld 3 true (.t 123), some (120, true)⟩ ::⟨(some 125), .mv (.t 11), some (120, true)⟩ ::⟨(some 126), .mv (.t 17), some (120, true)⟩ ::⟨(some 127), .ia 3 (.t 125) (.t 126), some (120, true)⟩ ::⟨(some 128), .ld 3 true (.t 127), some (120, true)⟩ :: []) (⟨(some 129), .eqv false 62 (.t 124) (.t 128), some (120, true)⟩ ::⟨(some 130), .pick (.t 120) (.t 129) (.c (.bool false)), none⟩ ::⟨(some 115), .mv (.t 130), none⟩ :: [])) (.cond (.t 115) (.reg (⟨(some 131), .mv (.t 16), none⟩ ::⟨(some 132), .bin .add (.t 131) (.c (.int .i64 1)), none⟩ ::⟨(some 16), .mv (.t 132), none⟩ :: [])) (.seq (.reg (⟨(some 2), .mv (.c (.bool false)), none⟩ :: [])) .ret))))))) (.reg (⟨(some 95), .mv (.t 17), none⟩ ::⟨(some 96), .bin .add (.t 95) (.c (.int .i64 1)), none⟩ ::⟨(some 17), .mv (.t 96), none⟩ :: []))))))) (.seq (.reg (⟨(some 133), .call (.c (.fn 7 [])) [], none⟩ ::⟨(some 2), .mv (.t 133), none⟩ :: [])) .ret)))))))))))
theorem cd_fretworklaw13_PullParts : Code1 Try.prog 5 134 ir_fretworklaw13_PullParts [.t 2] := ⟨Try.call5, _, _, Try.func5, rfl, by kernel_rfl, by kernel_rfl, by kernel_rfl, by kernel_rfl⟩

set_option maxHeartbeats 16000000 in
theorem fs_PullParts (r a b : Int) (l : List Tri) (x y : List (Int × Int)) (f : List Nat) (o : Bool) (ha : 0 ≤ a ∧ a ≤ 255) (hb : 0 ≤ b ∧ b ≤ 255) (hl : ∀ x ∈ l, I64 x.2.2) (hx : Ib x) (hf : Wd f) :
    FS Try.prog 5 [TK r a b l x y f o] (.bool true) := by
  refine fs_of_cvc mixed cd_fretworklaw13_PullParts (by simp) ?_
  have k1 := fs_Right13 r
  have k2 := fs_Matrix r a b l x y f o ha hb hl
  have k3 := fs_Vector r a b l x y f o x hb hx
  have k4 := fs_Rows13 r a b l x y f o
  have hm := tkM_ok (r := r) ha hb hl
  have hzb := zb_fac (r := r) ha hb hl
  obtain ⟨e1, hv, hvi, hvl⟩ := tkV_V (r := r) hb hx
  rw [e1] at k3
  have k5 := fs_r10Of (b.tmod 40) (tkV r b x).2 (by omega)
  rw [hv.sn, hv.sl] at k5
  have hzv : Zb (toL (b.tmod 40) (tkV r b x).2) := zb_toL fun z hz => by obtain ⟨n, hn, e⟩ := hvi z hz; rw [e]; exact valR_i hn
  have hD := okD_to hv
  have hR := rgt_R r
  have hfw : Wd (f.take 2) := fun x hx => hf x (List.mem_of_mem_take hx)
  generalize f.take 2 = g at *
  generalize rgt r = R at *
  obtain ⟨hM, _, hm1, hm2⟩ := hm
  generalize hmm : tkM r a b l = m at *
  obtain ⟨m1, m2, m3, m4, mv⟩ := m
  simp only at hM hzb hm1 hm2
  have k2' : FS Try.prog 12 [TK r a b l x y f o] (MX m1 m2 m3 m4 mv) := k2
  rw [← hm2] at k3 k5 hv hzv hD
  generalize (tkV r b x).2 = W at *
  have hc0 := hM.c0
  have hc1 := hM.c1
  have hr1 := hM.r1
  have k6 := fv_rNew m2
  rw [show clipN m2 = m2 by unfold clipN; rw [if_neg (by omega)]] at k6
  have hD0 := okD_to (okV_nil hc0 hc1)
  have iN : I64 m2 := by unfold I64; omega
  unfold dV at k5 k6
  have q1 := fs_pSums R m1 m2 m3 m4 mv m2 (toF m2 W) (toL m2 W) g false hzb iN hD.wd (dl_f hv) (dl_v hv) hzv hfw
  have q2 := fs_pSums R m1 m2 m3 m4 mv m2 (toF m2 W) (toL m2 W) g true hzb iN hD.wd (dl_f hv) (dl_v hv) hzv hfw
  have q3 := fs_pSumsN (r := R) (rows := m1) (cols := m2) (st := m3) (col := m4) (val := mv) (n := m2) (f := toF m2 W) (v := toL m2 W) (o := true) hzb iN hD.wd (dl_f hv) (dl_v hv) hzv
  have q4 := fs_pSumsN (r := R) (rows := m1) (cols := m2) (st := m3) (col := m4) (val := mv) (n := m2) (f := toF m2 []) (v := toL m2 []) (o := true) hzb iN hD0.wd (dl_f (okV_nil hc0 hc1)) (dl_v (okV_nil hc0 hc1)) (zb_toL fun z hz => by cases hz)
  rw [hM.mS, hD.dS, sumsR_fit hR rfl] at q1 q2 q3
  rw [hM.mS, hD0.dS, sumsR_fit hR rfl] at q4
  simp only at q1 q2 q3 q4
  have e0 : sumsL (fun i => rowO R (dG (toF m2 []) (toL m2 [])) (rowL m3 m4 mv i)) (askL m1 [] true) = [] := sumsL_no (fun i => rowO_no (dG_to_nil hc0 hc1) _) _
  rw [e0] at q4
  have hw := sums_w (r := R) (st := m3) (col := m4) (val := mv) (f := toF m2 W) (v := toL m2 W) hzb hzv (List.range m1.toNat)
  rw [askL_all] at q3
  have ea : askL m1 g false = (List.range m1.toNat).filter fun (i : Nat) => (fun c => hasI g c) (i : Int) := by
    unfold askL; refine List.filter_congr fun i _ => ?_
    show (hasI g (i : Int) != false) = hasI g (i : Int)
    cases hasI g (i : Int) <;> rfl
  have eb : askL m1 g true = (List.range m1.toNat).filter fun (i : Nat) => (fun c => !hasI g c) (i : Int) := by
    unfold askL; refine List.filter_congr fun i _ => ?_
    show (hasI g (i : Int) != true) = !hasI g (i : Int)
    cases hasI g (i : Int) <;> rfl
  rw [ea, sumsL_filt fun c => hasI g c] at q1
  rw [eb, sumsL_filt fun c => !hasI g c] at q2
  have hLl := sumsL_le (fun i => rowO R (dG (toF m2 W) (toL m2 W)) (rowL m3 m4 mv i)) (List.range m1.toNat)
  rw [List.length_range] at hLl
  generalize sumsL (fun i => rowO R (dG (toF m2 W) (toL m2 W)) (rowL m3 m4 mv i)) (List.range m1.toNat) = L at *
  obtain ⟨p, hp⟩ : ∃ p : Int × Int → Bool, p = fun x => hasI g x.1 := ⟨_, rfl⟩
  have hp2 : (fun x : Int × Int => !hasI g x.1) = fun x => !p x := by rw [hp]
  rw [← hp] at q1
  rw [hp2] at q2
  have htwo := filt_two p L
  have hwA : ∀ x ∈ L.filter p, W128 x.2 := fun x hx => hw x (List.mem_filter.1 hx).1
  have hwB : ∀ x ∈ L.filter (fun x => !p x), W128 x.2 := fun x hx => hw x (List.mem_filter.1 hx).1
  have hA : ∀ x ∈ L.filter p, p x = true := fun x hx => (List.mem_filter.1 hx).2
  have fA : ∀ {k : Nat} {x : Int × Int}, L[k]? = some x → p x = true → (L.filter p)[((L.take k).filter p).length]? = some x := fun h hq => filt_at h hq
  have fB : ∀ {k : Nat} {x : Int × Int}, L[k]? = some x → (!p x) = true → (L.filter fun x => !p x)[((L.take k).filter fun x => !p x).length]? = some x := fun h hq => filt_at h hq
  have gA : ∀ {k : Nat} {x : Int × Int}, L[k]? = some x → ((L.take (k + 1)).filter p).length = ((L.take k).filter p).length + (if p x = true then 1 else 0) := fun h => filt_more h
  have gB : ∀ {k : Nat} {x : Int × Int}, L[k]? = some x → ((L.take (k + 1)).filter fun x => !p x).length = ((L.take k).filter fun x => !p x).length + (if (!p x) = true then 1 else 0) := fun h => filt_more h
  have lA : ∀ k, ((L.take k).filter p).length ≤ 4096 := fun k => Nat.le_trans (List.length_filter_le _ _) (by simp; omega)
  have lB : ∀ k, ((L.take k).filter fun x => !p x).length ≤ 4096 := fun k => Nat.le_trans (List.length_filter_le _ _) (by simp; omega)
  obtain ⟨I, hI⟩ : ∃ I : Nat → Nat, ∀ k, I k = ((L.take k).filter p).length := ⟨_, fun _ => rfl⟩
  obtain ⟨J, hJ⟩ : ∃ J : Nat → Nat, ∀ k, J k = ((L.take k).filter fun x => !p x).length := ⟨_, fun _ => rfl⟩
  simp only [← hI] at fA gA lA
  simp only [← hJ] at fB gB lB
  have hI0 : I 0 = 0 := by rw [hI]; simp
  have hJ0 : J 0 = 0 := by rw [hJ]; simp
  generalize L.filter p = La at *
  generalize (L.filter fun x => !p x) = Lb at *
  have z1 := sms_len L
  have z2 := sms_len La
  have z3 := sms_len Lb
  generalize toF m2 W = F1 at *
  generalize toL m2 W = V1 at *
  generalize toF m2 [] = F0 at *
  generalize toL m2 [] = V0 at *
  have q1' : FS Try.prog 8 [.int .i64 R, MX m1 m2 m3 m4 mv, DV m2 F1 V1, U g, .bool false] (.tup [SM La, .int .i64 0]) := q1
  have q2' : FS Try.prog 8 [.int .i64 R, MX m1 m2 m3 m4 mv, DV m2 F1 V1, U g, .bool true] (.tup [SM Lb, .int .i64 0]) := q2
  have q3' : FS Try.prog 8 [.int .i64 R, MX m1 m2 m3 m4 mv, DV m2 F1 V1, .nils, .bool true] (.tup [SM L, .int .i64 0]) := q3
  have q4' : FS Try.prog 8 [.int .i64 R, MX m1 m2 m3 m4 mv, DV m2 F0 V0, .nils, .bool true] (.tup [SM [], .int .i64 0]) := q4
  repeat' (conv => whnf); first
    | ((refine Or.inl ⟨by rfl, _, k1, ?_⟩))
    | ((refine Or.inl ⟨by rfl, _, k2', ?_⟩))
    | ((refine Or.inl ⟨by rfl, _, k3, ?_⟩))
    | ((refine Or.inl ⟨by rfl, _, k4, ?_⟩))
    | ((refine Or.inl ⟨by rfl, _, k5, ?_⟩))
    | ((refine Or.inl ⟨by rfl, _, k6, ?_⟩))
    | ((refine Or.inl ⟨by rfl, _, q1', ?_⟩))
    | ((refine Or.inl ⟨by rfl, _, q2', ?_⟩))
    | ((refine Or.inl ⟨by rfl, _, q3', ?_⟩))
    | ((refine Or.inl ⟨by rfl, _, q4', ?_⟩))
    | ((refine Br.beq (by rfl) ?_))
    | ((refine Br.bne (by rfl) ?_))
    | ((refine And.intro (Or.inl (Nat.zero_le _)) ?_))
    | ((refine And.intro (show _ ≤ _ from Nat.le_of_ble_eq_true rfl) ?_))
    | (refine Br.tt ?_)
    | (refine Br.ff ?_)
    | (refine Br.dec (fun h => ?_) (fun h => ?_)) <;> try (exfalso; omega)
    | (refine Br.neg ?_)
    | (refine Br.mk (fun h => ?_) (fun h => ?_))
    | (refine And.intro rfl ?_)
    | (refine And.intro (by omega) ?_)
    | (refine ⟨_, Or.inl ⟨⟨by omega, by omega⟩, rfl⟩, ?_⟩)
    | (refine And.intro (by simp only [lens_all, zs_len, U_len, sms_len, its_len, eds_len]; first | done | omega) ?_)
    | (refine And.intro (Nat.le_refl _) ?_)
    | fail
  refine ⟨Nat, fun k => k ≤ L.length, fun k => [(2, .bool false), (7, SM La), (9, SM Lb), (11, SM L), (15, .int .i64 (I k : Int)), (16, .int .i64 (J k : Int)), (17, .int .i64 (k : Int))], fun _ => [.dead, .dead, .dead], fun _ => none, fun k => L.length - k,
    ⟨0, Nat.zero_le _, ⟨rfl, rfl, rfl, rfl, ?_, ?_, rfl, trivial⟩, ⟨trivial, trivial, trivial, trivial⟩, rfl⟩, fun k hk => ?_⟩
  · rw [hI0]; exact rfl
  · rw [hJ0]; exact rfl
  have hk : k ≤ L.length := hk
  have hIk := lA k
  have hJk := lB k
  by_cases hkl : k < L.length
  · obtain ⟨z, hz⟩ : ∃ z, L.getD k (0, 0) = z := ⟨_, rfl⟩
    have hzk : L[k]? = some z := by rw [← hz]; exact getD_some hkl
    have hzw := hw z (List.mem_of_getElem? hzk)
    cases hpz : p z with
    | true =>
      have h1 := fA hzk hpz
      have h2 := gA hzk
      have h3 := gB hzk
      rw [hpz] at h2 h3
      rw [if_pos rfl] at h2
      rw [if_neg (by simp), Nat.add_zero] at h3
      have hil := (List.getElem?_eq_some_iff.1 h1).1
      have hig : La.getD (I k) (0, 0) = z := by rw [List.getD_eq_getElem?_getD, h1]; rfl
      have c : EqOk Try.prog false 62 [.int .i64 z.1, .int .i64 (hi z.2), .int .u64 (lo z.2)] [.int .i64 z.1, .int .i64 (hi z.2), .int .u64 (lo z.2)] (decide (z = z)) := eqs false z z hzw hzw
      rw [decide_eq_true rfl] at c
      repeat' (conv => whnf); first
        | ((refine sms_go (i := I k) (by omega) hig ?_))
        | ((refine sms_go (i := k) (by omega) hz ?_))
        | ((refine ⟨_, c, ?_⟩))
        | ((refine Br.beq (by rfl) ?_))
        | ((refine Br.bne (by rfl) ?_))
        | ((refine And.intro (Or.inl (Nat.zero_le _)) ?_))
        | ((refine And.intro (show _ ≤ _ from Nat.le_of_ble_eq_true rfl) ?_))
        | (refine Br.tt ?_)
        | (refine Br.ff ?_)
        | (refine Br.dec (fun h => ?_) (fun h => ?_)) <;> try (exfalso; omega)
        | (refine Br.neg ?_)
        | (refine Br.mk (fun h => ?_) (fun h => ?_))
        | (refine And.intro rfl ?_)
        | (refine And.intro (by omega) ?_)
        | (refine ⟨_, Or.inl ⟨⟨by omega, by omega⟩, rfl⟩, ?_⟩)
        | (refine And.intro (by simp only [lens_all, zs_len, U_len, sms_len, its_len, eds_len]; first | done | omega) ?_)
        | (refine And.intro (Nat.le_refl _) ?_)
        | fail
      refine ⟨k + 1, (show k + 1 ≤ L.length by omega), (show L.length - (k + 1) < L.length - k by omega), ⟨rfl, rfl, rfl, rfl, ?_, ?_, rfl, trivial⟩, ⟨trivial, trivial, trivial, trivial⟩, rfl⟩
      · rw [h2]; exact rfl
      · rw [h3]; exact rfl
    | false =>
      have h1 := fB hzk (by rw [hpz]; rfl)
      have h2 := gA hzk
      have h3 := gB hzk
      rw [hpz] at h2 h3
      rw [if_neg (by simp), Nat.add_zero] at h2
      rw [if_pos (by rfl)] at h3
      have hjl := (List.getElem?_eq_some_iff.1 h1).1
      have hjg : Lb.getD (J k) (0, 0) = z := by rw [List.getD_eq_getElem?_getD, h1]; rfl
      have c : EqOk Try.prog false 62 [.int .i64 z.1, .int .i64 (hi z.2), .int .u64 (lo z.2)] [.int .i64 z.1, .int .i64 (hi z.2), .int .u64 (lo z.2)] (decide (z = z)) := eqs false z z hzw hzw
      rw [decide_eq_true rfl] at c
      by_cases hil : I k < La.length
      · obtain ⟨u, hu⟩ : ∃ u, La.getD (I k) (0, 0) = u := ⟨_, rfl⟩
        have hum : u ∈ La := by rw [← hu]; exact mem_getD hil
        have hne : u ≠ z := fun e => by have := hA u hum; rw [e, hpz] at this; cases this
        have d : EqOk Try.prog false 62 [.int .i64 u.1, .int .i64 (hi u.2), .int .u64 (lo u.2)] [.int .i64 z.1, .int .i64 (hi z.2), .int .u64 (lo z.2)] (decide (u = z)) := eqs false u z (hwA u hum) hzw
        rw [decide_eq_false hne] at d
        repeat' (conv => whnf); first
          | ((refine sms_go (i := I k) (by omega) hu ?_))
          | ((refine sms_go (i := J k) (by omega) hjg ?_))
          | ((refine sms_go (i := k) (by omega) hz ?_))
          | ((refine ⟨_, d, ?_⟩))
          | ((refine ⟨_, c, ?_⟩))
          | ((refine Br.beq (by rfl) ?_))
          | ((refine Br.bne (by rfl) ?_))
          | ((refine And.intro (Or.inl (Nat.zero_le _)) ?_))
          | ((refine And.intro (show _ ≤ _ from Nat.le_of_ble_eq_true rfl) ?_))
          | (refine Br.tt ?_)
          | (refine Br.ff ?_)
          | (refine Br.dec (fun h => ?_) (fun h => ?_)) <;> try (exfalso; omega)
          | (refine Br.neg ?_)
          | (refine Br.mk (fun h => ?_) (fun h => ?_))
          | (refine And.intro rfl ?_)
          | (refine And.intro (by omega) ?_)
          | (refine ⟨_, Or.inl ⟨⟨by omega, by omega⟩, rfl⟩, ?_⟩)
          | (refine And.intro (by simp only [lens_all, zs_len, U_len, sms_len, its_len, eds_len]; first | done | omega) ?_)
          | (refine And.intro (Nat.le_refl _) ?_)
          | fail
        refine ⟨k + 1, (show k + 1 ≤ L.length by omega), (show L.length - (k + 1) < L.length - k by omega), ⟨rfl, rfl, rfl, rfl, ?_, ?_, rfl, trivial⟩, ⟨trivial, trivial, trivial, trivial⟩, rfl⟩
        · rw [h2]; exact rfl
        · rw [h3]; exact rfl
      · repeat' (conv => whnf); first
          | ((refine sms_go (i := J k) (by omega) hjg ?_))
          | ((refine sms_go (i := k) (by omega) hz ?_))
          | ((refine ⟨_, c, ?_⟩))
          | ((refine Br.beq (by rfl) ?_))
          | ((refine Br.bne (by rfl) ?_))
          | ((refine And.intro (Or.inl (Nat.zero_le _)) ?_))
          | ((refine And.intro (show _ ≤ _ from Nat.le_of_ble_eq_true rfl) ?_))
          | (refine Br.tt ?_)
          | (refine Br.ff ?_)
          | (refine Br.dec (fun h => ?_) (fun h => ?_)) <;> try (exfalso; omega)
          | (refine Br.neg ?_)
          | (refine Br.mk (fun h => ?_) (fun h => ?_))
          | (refine And.intro rfl ?_)
          | (refine And.intro (by omega) ?_)
          | (refine ⟨_, Or.inl ⟨⟨by omega, by omega⟩, rfl⟩, ?_⟩)
          | (refine And.intro (by simp only [lens_all, zs_len, U_len, sms_len, its_len, eds_len]; first | done | omega) ?_)
          | (refine And.intro (Nat.le_refl _) ?_)
          | fail
        refine ⟨k + 1, (show k + 1 ≤ L.length by omega), (show L.length - (k + 1) < L.length - k by omega), ⟨rfl, rfl, rfl, rfl, ?_, ?_, rfl, trivial⟩, ⟨trivial, trivial, trivial, trivial⟩, rfl⟩
        · rw [h2]; exact rfl
        · rw [h3]; exact rfl
  · obtain rfl : k = L.length := by omega
    repeat' (conv => whnf); first
      | ((refine Or.inl ⟨by rfl, _, fs_live13, ?_⟩))
      | ((refine Br.beq (by rfl) ?_))
      | ((refine Br.bne (by rfl) ?_))
      | ((refine And.intro (Or.inl (Nat.zero_le _)) ?_))
      | ((refine And.intro (show _ ≤ _ from Nat.le_of_ble_eq_true rfl) ?_))
      | (refine Br.tt ?_)
      | (refine Br.ff ?_)
      | (refine Br.dec (fun h => ?_) (fun h => ?_)) <;> try (exfalso; omega)
      | (refine Br.neg ?_)
      | (refine Br.mk (fun h => ?_) (fun h => ?_))
      | (refine And.intro rfl ?_)
      | (refine And.intro (by omega) ?_)
      | (refine ⟨_, Or.inl ⟨⟨by omega, by omega⟩, rfl⟩, ?_⟩)
      | (refine And.intro (by simp only [lens_all, zs_len, U_len, sms_len, its_len, eds_len]; first | done | omega) ?_)
      | (refine And.intro (Nat.le_refl _) ?_)
      | fail
    exact rfl
end
end Go.Proofs.Ytlbmjnammgffiaa
