/- Walks of TopExact: case 2. -/
import Derived.Test.YtnalgofemikggaaTc
import Derived.Outline
namespace Go.Proofs.Ytnalgofemikggaa
open Go.RowKit
set_option maxRecDepth 100000 in
set_option maxHeartbeats 1000000 in
theorem topExact_2 (a x at_ : List Int) (pa px pat : Option Addr) (ka kx kat : Nat) (w : World) (ha : a.length ≤ ka) (hka : ka ≤ maxLen) (hx : x.length ≤ kx) (hkx : kx ≤ maxLen)
    (hat : at_.length ≤ kat) (hkat : kat ≤ maxLen) (ca : Sl .i64 w pa a) (cx : Sl .i64 w px x) (cat : Sl .u8 w pat at_)
    (wa : ∀ i, i < a.length → I64 (a.getD i 0)) (wx : ∀ i, i < x.length → I64 (x.getD i 0)) (wat : ∀ i, i < at_.length → 0 ≤ at_.getD i 0 ∧ at_.getD i 0 ≤ 255) (hc : x.length < a.length) (hn : ¬ 60 < x.length) :
    Calls Try.prog 10 #[.slice pa a.length ka, .slice px x.length kx, .slice pat at_.length kat] w fun e w' => e = .returned (.bool true) ∧ Ext w w' := by
  unfold maxLen at hka hkx hkat
  obtain ⟨i0, hin, hz0, hz1, hz2⟩ := info_parts infoW
  go_enter Try.func10, Try.ntmps10
  go_wp2
  go_loopw [8, 9, 10] (fun vp vq t wr => ∃ j : Nat, t = .int .i64 j ∧ j ≤ x.length ∧ wr.ownsRow w.heap.size 24 2 vp j (wcells (prods a x j)) ∧ wr.ownsRow w.heap.size 24 2 vq j (wcells (prods a x j)) ∧ Apart vp vq ∧ Ext w wr) (fun _ _ t _ => x.length - (intOf t).toNat)
  case atStart => exact ⟨0, rfl, by omega, World.ownsRow_nil _ _ _ _, World.ownsRow_nil _ _ _ _, .inl rfl, by (repeat (first | exact Ext.refl _ | assumption | (refine Ext.setCell' ?_ (by simp <;> omega) _) | refine Ext.alloc' ?_ _ | refine Ext.drew' ?_ | (refine Ext.trans _ _ _ ?_ (by assumption))))⟩
  case round =>
    obtain ⟨j, rfl, hj, op, oq, ap, hx⟩ := hrel
    by_cases hlt : j < x.length
    · obtain ⟨ba, oa, rfl, sa, ca'⟩ := ca.at j (by omega)
      obtain ⟨bx, ox, rfl, sx, cx'⟩ := cx.at j (by omega)
      have ca'' := (hx.cell ba (oa + j) sa).trans ca'
      have cx'' := (hx.cell bx (ox + j) sx).trans cx'
      have sa' : ba < wr.heap.size := Nat.lt_of_lt_of_le sa hx.size
      have sx' : bx < wr.heap.size := Nat.lt_of_lt_of_le sx hx.size
      have wa' := wa j (by omega)
      have wx' := wx j (by omega)
      have HE := Lib.hid (prods_succ a x j)
      have hlta : j < a.length := by omega
      have hltx : j < x.length := by omega
      clear ca' cx' ca cx cat wa wx wat
      generalize a.getD j 0 = av at *
      generalize x.getD j 0 = xv at *
      have wf := fac5_i64 av
      have HP := Lib.hid op
      have HQ := Lib.hid oq
      clear op oq
      go_wp2
      refine wp_region_rel_tail 11 139 Ext Ext.refl Ext.trans (by kernel_rfl) rfl (by kernel_rfl) ?_
      simp only [List.take_succ_cons, List.take_zero, List.drop_succ_cons, List.drop_zero]
      iterate 10
        first
          | (refine wpRel_skip ?_ ?_
             · (simp [go_sem]; done)
             simp only [Act.put, List.setIfInBounds_toArray, List.set_cons_zero, List.set_cons_succ])
          | (refine wpRel_ex ?_ ?_
             · (simp [go_sem]; done)
             apply Exists.intro
             refine ⟨fun σ w' hR hF => ?_, ?_⟩
             · have hcell := (Ext.trans _ _ _ (Ext.drew _) hR).cell
               clear hF
               simp only [fill]
               go_simp
               first
                 | (go_at_call 29; refine (law_Factor5 _ wa' _).mono ?_; rintro e w1 ⟨rfl, h1⟩; exact ⟨rfl, h1⟩)
                 | (go_at_call 28; refine (ring_Mul5' _ _ wf wx' _).mono ?_; rintro e w1 ⟨rfl, h1⟩; exact ⟨rfl, h1⟩)
                 | exact ⟨Ext.refl _, rfl⟩
             simp only [Act.put, List.setIfInBounds_toArray, List.set_cons_zero, List.set_cons_succ])
      refine wpRel_fact (by (simp [go_sem]; done)) 11 (NewPtr wr.heap.size [.int .i64 0, .int .u64 0]) rfl (NewPtr.stable _ _) (fun σ w' hR hF => ?_) ?_
      · have hs := hR.size
        simp at hs
        go_simp
        exact NewPtr.alloc w' [.int .i64 0, .int .u64 0] 24 (by omega)
      intro σ w2 hRw2 hF
      obtain ⟨⟨g, hv, hB, bw⟩, _⟩ := hF
      have hEw2 := Ext.trans _ _ _ (Ext.drew _) hRw2
      simp only [fill, Act.put, List.setIfInBounds_toArray, List.set_cons_zero, List.set_cons_succ, hv]
      obtain ⟨sw, cw0, cw1, fw⟩ := bw.two
      have hx3 : Ext wr ((w2.setCell ⟨g, 0, none⟩ (.int .i64 (hi (fac5 av * xv)))).setCell ⟨g, 1, none⟩ (.int .u64 (lo (fac5 av * xv)))) := by (repeat (first | exact Ext.refl _ | assumption | (refine Ext.setCell' ?_ (by simp <;> omega) _) | refine Ext.alloc' ?_ _ | refine Ext.drew' ?_ | (refine Ext.trans _ _ _ ?_ (by assumption))))
      have bw3 := bw.set2 (.int .i64 (hi (fac5 av * xv))) (.int .u64 (lo (fac5 av * xv)))
      have hs3 : ((w2.setCell ⟨g, 0, none⟩ (.int .i64 (hi (fac5 av * xv)))).setCell ⟨g, 1, none⟩ (.int .u64 (lo (fac5 av * xv)))).heap.size = w2.heap.size := by simp [World.setCell]
      have cn3 := cell_two_new ((w2.setCell ⟨g, 0, none⟩ (.int .i64 (hi (fac5 av * xv)))).setCell ⟨g, 1, none⟩ (.int .u64 (lo (fac5 av * xv)))) (.int .i64 (hi (fac5 av * xv))) (.int .u64 (lo (fac5 av * xv))) 24
      rw [hs3] at cn3
      have op3 := Lib.hid ((own_ext HP.out hx3).alloc (.cells #[.int .i64 (hi (fac5 av * xv)), .int .u64 (lo (fac5 av * xv))] 24))
      have oq3 := Lib.hid ((own_ext HQ.out hx3).alloc (.cells #[.int .i64 (hi (fac5 av * xv)), .int .u64 (lo (fac5 av * xv))] 24))
      have BW3 := Lib.hid (bw3.ext (Ext.alloc _ (.cells #[.int .i64 (hi (fac5 av * xv)), .int .u64 (lo (fac5 av * xv))] 24)))
      have CN3 := Lib.hid cn3
      have hx3w := Lib.hid (Ext.alloc' (Ext.trans _ _ _ hx hx3) (.cells #[.int .i64 (hi (fac5 av * xv)), .int .u64 (lo (fac5 av * xv))] 24))
      have HAP := Lib.hid ap
      clear ap
      have hsz0 := hx.size
      have hszr := hEw2.size
      clear cn3
      go_wp2_with (first
        | (at_builtin; refine wpList_append_own_at _ rfl (.tmp 43) (.tmp 45) 42 rfl w.heap.size 24 i0 (.agg #[.int .i64 0, .int .u64 0]) 2 16 Try.underlying42 hin hz0 hz1 hz2 rfl (by decide) _ _ _ rfl op3.out ⟨w2.heap.size, 0, none⟩ 1 1 [.int .i64 (hi (fac5 av * xv)), .int .u64 (lo (fac5 av * xv))] rfl rfl CN3.out (by intro u hu; simp at hu; rcases hu with rfl | rfl <;> rfl) (by unfold maxLen; omega) (by omega) (by simp; omega) ?_; intro vp w4 op4 hg4 _ hat4; have bw4 := box_grown BW3.out hg4 (own_ne HP.out hB); obtain ⟨sw4, cw40, cw41, fw4⟩ := bw4.two; have oq4 := Lib.hid (oq3.out.kept hg4 HAP.out.symm); have OP4 := Lib.hid op4; have HX4 := Lib.hid (Ext.grown hx3w.out hg4 (own_ge HP.out)); have AP4 := Lib.hid (apart_new oq3.out HAP.out.symm (hat4.imp id (fun h => ⟨_, h, Nat.le_refl _⟩))); have hs4 := HX4.out.size; clear op4 hat4 hg4)
        | (at_builtin; refine wpList_append_own_at _ rfl (.tmp 47) (.tmp 49) 42 rfl w.heap.size 24 i0 (.agg #[.int .i64 0, .int .u64 0]) 2 16 Try.underlying42 hin hz0 hz1 hz2 rfl (by decide) _ _ _ rfl (oq4.out.alloc _) ⟨w4.heap.size, 0, none⟩ 1 1 [.int .i64 (hi (fac5 av * xv)), .int .u64 (lo (fac5 av * xv))] rfl rfl (cell_two_new _ _ _ _) (by intro u hu; simp at hu; rcases hu with rfl | rfl <;> rfl) (by unfold maxLen; omega) (by omega) (by simp; omega) ?_; intro vq w5 oq5 hg5 _ hat5; have OQ5 := Lib.hid oq5; have OP5 := Lib.hid ((OP4.out.alloc _).kept hg5 AP4.out.symm); have AP5 := Lib.hid (apart_new (OP4.out.alloc _) AP4.out.symm (hat5.imp id (fun h => ⟨_, h, Nat.le_refl _⟩))); have HX5 := Lib.hid (Ext.grown (Ext.alloc' HX4.out _) hg5 (own_ge HQ.out)); clear oq5 hat5 hg5))
      go_roundw
      case rel =>
        refine ⟨j + 1, by go_num, by omega, ?_, ?_, AP5.out, HX5.out⟩
        · rw [HE.out, wcells_append]; exact OP5.out
        · rw [HE.out, wcells_append]; exact OQ5.out
      case measure => simp [intOf]; omega
    · have hjn : j = x.length := by omega
      subst hjn
      by_cases h0 : x.length = 0
      · have hn0 : decide (0 < (x.length : Int)) = false := decide_eq_false (by omega)
        have g1 : nar 5 = 5 := by decide
        have g2 : fits 5 = true := by decide
        clear op oq ap ca cx cat wa wx wat hn0
        by_cases hl0 : 0 < at_.length
        all_goals
          go_wp2
          go_loopw [12] (fun t wr => t = .int .i64 0 ∧ Ext w wr) (fun _ _ => 0)
          case atStart => exact ⟨rfl, by (repeat (first | exact Ext.refl _ | assumption | (refine Ext.setCell' ?_ (by simp <;> omega) _) | refine Ext.alloc' ?_ _ | refine Ext.drew' ?_ | (refine Ext.trans _ _ _ ?_ (by assumption))))⟩
          case round =>
            clear hx
            obtain ⟨rfl, hx⟩ := hrel
            go_wp2
            have B16 := (Box.alloc wr [.int .i64 0, .int .u64 0] 24).ext (Ext.alloc _ (.cells #[.int .i64 0, .int .u64 0] 24))
            have B17 := Box.alloc' (wr.alloc (.cells #[.int .i64 0, .int .u64 0] 24)) [.int .i64 0, .int .u64 0] 24 (wr.heap.size + 1) (by simp)
            generalize wr.heap.size = z at *
            go_loopw [18] (fun t wr => t = .int .i64 0 ∧ Box wr z [.int .i64 0, .int .u64 0] ∧ Box wr (z + 1) [.int .i64 0, .int .u64 0] ∧ Ext w wr) (fun _ _ => 0)
            case atStart => exact ⟨rfl, B16, B17, by (repeat (first | exact Ext.refl _ | assumption | (refine Ext.setCell' ?_ (by simp <;> omega) _) | refine Ext.alloc' ?_ _ | refine Ext.drew' ?_ | (refine Ext.trans _ _ _ ?_ (by assumption))))⟩
            case round =>
              clear hx B16 B17
              obtain ⟨rfl, b16, b17, hx⟩ := hrel
              obtain ⟨s6, c60, c61, f6⟩ := b16.two
              obtain ⟨s7, c70, c71, f7⟩ := b17.two
              go_wp2
              go_loopw [20] (fun t wr => t = .int .i64 0 ∧ Box wr z [.int .i64 0, .int .u64 0] ∧ Ext w wr) (fun _ _ => 0)
              case atStart => exact ⟨rfl, b16, by (repeat (first | exact Ext.refl _ | assumption | (refine Ext.setCell' ?_ (by simp <;> omega) _) | refine Ext.alloc' ?_ _ | refine Ext.drew' ?_ | (refine Ext.trans _ _ _ ?_ (by assumption))))⟩
              case round =>
                clear hx b16 b17 s6 c60 c61 f6 s7 c70 c71 f7
                obtain ⟨rfl, b16, hx⟩ := hrel
                obtain ⟨s6, c60, c61, f6⟩ := b16.two
                go_wp2_with (first | (go_at_call 14; refine (wide_Of _ (by unfold I64; omega) _).mono ?_; rintro e w1 ⟨rfl, k1⟩; have b16 := b16.ext k1; obtain ⟨s6, c60, c61, f6⟩ := b16.two) | (go_at_call 11; refine (wide_Narrow _ (by unfold W128; omega) _).mono ?_; rintro e w1 ⟨rfl, k1⟩; have b16 := b16.ext k1; obtain ⟨s6, c60, c61, f6⟩ := b16.two))
                go_ret
                exact ⟨rfl, by (repeat (first | exact Ext.refl _ | assumption | (refine Ext.setCell' ?_ (by simp <;> omega) _) | refine Ext.alloc' ?_ _ | refine Ext.drew' ?_ | (refine Ext.trans _ _ _ ?_ (by assumption))))⟩
      rcases own_box op with ⟨_, hb, _⟩ | ⟨gp, kp, rfl, hgp, hkp, hkp2, bp⟩
      · exact absurd hb h0
      rcases own_box oq with ⟨_, hb, _⟩ | ⟨gq, kq, rfl, hgq, hkq, hkq2, bq⟩
      · exact absurd hb h0
      have hpq : gp ≠ gq := by
        rcases ap with h | h
        · simp [Value.ownBlock] at h
        · simpa [Value.ownBlock] using h
      have hn0 : decide (0 < (x.length : Int)) = true := decide_eq_true (by omega)
      clear op oq ap
      have hP : (prods a x x.length).length = x.length := by simp [prods]
      generalize prods a x x.length = P at *
      go_wp2
      go_loopw [12] (fun t wr => ∃ (j : Nat) (Q : List Int), t = .int .i64 j ∧ j ≤ at_.length ∧ j ≤ 60 ∧ Q.length = x.length ∧ Q.sum = P.sum ∧ Box wr gq (wcells Q) ∧ Box wr gp (wcells P) ∧ Ext w wr) (fun t _ => at_.length - (intOf t).toNat)
      case atStart => exact ⟨0, P, rfl, by omega, by omega, hP, rfl, bq, bp, by (repeat (first | exact Ext.refl _ | assumption | (refine Ext.setCell' ?_ (by simp <;> omega) _) | refine Ext.alloc' ?_ _ | refine Ext.drew' ?_ | (refine Ext.trans _ _ _ ?_ (by assumption))))⟩
      case round =>
        clear hx bp bq
        obtain ⟨j, Q, rfl, hj, hj60, hQ, hS, bq, bp, hx⟩ := hrel
        by_cases hlt : j < at_.length
        · by_cases hlt2 : j < 60
          · obtain ⟨bt, ot, rfl, st, ct'⟩ := cat.at j hlt
            have ct'' := (hx.cell bt (ot + j) st).trans ct'
            have st' : bt < wr.heap.size := Nat.lt_of_lt_of_le st hx.size
            have wt' := wat j hlt
            clear ca cx ct' cat wa wx wat
            generalize at_.getD j 0 = tv at *
            have hnz : ¬ (x.length : Int) = 0 := by omega
            have hnz2 : ¬ x.length = 0 := h0
            obtain ⟨tn, rfl⟩ := Int.eq_ofNat_of_zero_le wt'.1
            have e1 : (tn : Int).tmod (x.length : Int) = ((tn % x.length : Nat) : Int) := rfl
            have e2 : (j : Int).tmod (x.length : Int) = ((j % x.length : Nat) : Int) := rfl
            have hk : tn % x.length < x.length := Nat.mod_lt _ (by omega)
            have hm : j % x.length < x.length := Nat.mod_lt _ (by omega)
            go_wp2
            have f0 : IntKind.i64.wrap (tn : Int) = tn := by unfold IntKind.wrap; simp [IntKind.signed, IntKind.bits]; omega
            refine wp_region_rel 139 Ext Ext.refl Ext.trans (by kernel_rfl) rfl (by kernel_rfl) ?_
            iterate 12
              first
                | (refine wpRel_skip ?_ ?_
                   · (simp [go_sem]; done)
                   simp only [Act.put, List.setIfInBounds_toArray, List.set_cons_zero, List.set_cons_succ])
                | (refine wpRel_ex ?_ ?_
                   · (simp [go_sem]; done)
                   apply Exists.intro
                   refine ⟨fun σ w' hR hF => ?_, ?_⟩
                   · have hcell := (Ext.trans _ _ _ (Ext.drew _) hR).cell
                     clear hF
                     simp only [fill]
                     go_simp
                     first
                       | exact ⟨Ext.refl _, rfl⟩
                   simp only [Act.put, List.setIfInBounds_toArray, List.set_cons_zero, List.set_cons_succ])
            intro σ w2 hRw2 _
            have hEw2 := Ext.trans _ _ _ (Ext.drew _) hRw2
            have hcellw2 := hEw2.cell
            have hfreew2 := hEw2.free
            simp only [fill]
            rw [show (tn : Int) % (x.length : Int) = ((tn % x.length : Nat) : Int) from rfl, show (j : Int) % (x.length : Int) = ((j % x.length : Nat) : Int) from rfl]
            clear e1 e2 f0
            generalize tn % x.length = k at *
            generalize j % x.length = m at *
            have bq := bq.ext hEw2
            have bp := bp.ext hEw2
            have sq := bq.1
            have hfq := bq.2.2
            obtain ⟨ck0, ck1⟩ := wbox_at bq k (by omega)
            obtain ⟨cm0, cm1⟩ := wbox_at bq m (by omega)
            have HS := Lib.hid (sum_swap Q k m (by omega) (by omega))
            have hQ2 : ((Q.set k (Q.getD m 0)).set m (Q.getD k 0)).length = x.length := by simp [hQ]
            have bq0 := Lib.hid bq
            have bp0 := Lib.hid bp
            generalize Q.getD k 0 = l1 at *
            generalize Q.getD m 0 = l2 at *
            have bq1 := wbox_set bq k l2
            obtain ⟨c40, c41⟩ := wbox_at bq1 m (by simp; omega)
            obtain ⟨y, c5⟩ : ∃ y, (((w2.setCell ⟨gq, k * 2, none⟩ (.int .i64 (hi l2))).setCell ⟨gq, k * 2 + 1, none⟩ (.int .u64 (lo l2))).setCell ⟨gq, m * 2, none⟩ (.int .i64 (hi l1))).cell? ⟨gq, m * 2 + 1, none⟩ = some y :=
              ⟨_, (bq1.set (m * 2) (.int .i64 (hi l1))).2.1 (m * 2 + 1) (by simp [wcells_length]; omega)⟩
            have ca40 := ((bq1.ext (Ext.alloc _ (.cells #[.int .i64 (hi l1), .int .u64 (lo l1)] 24))))
            obtain ⟨c4a0, c4a1⟩ := wbox_at ca40 m (by simp; omega)
            have c5a := ((Ext.alloc _ (.cells #[.int .i64 (hi l1), .int .u64 (lo l1)] 24)).cell gq (m * 2 + 1) (bq1.set (m * 2) (.int .i64 (hi l1))).1).trans c5
            have BQ1 := Lib.hid (wbox_set bq1 m l1)
            clear bq bp bq1 ca40
            have nb : ¬ gq = w2.heap.size := by omega
            have nb' : ¬ w2.heap.size = gq := by omega
            go_wp2
            go_roundw
            case rel =>
              refine ⟨j + 1, (Q.set k l2).set m l1, by go_num, by omega, by omega, hQ2, HS.out.trans hS, BQ1.out.ext (Ext.alloc _ _), ?_, ?_⟩
              · exact ((((bp0.out.far (p := ⟨gq, k * 2, none⟩) hpq.symm _).far (p := ⟨gq, k * 2 + 1, none⟩) hpq.symm _).far (p := ⟨gq, m * 2, none⟩) hpq.symm _).far (p := ⟨gq, m * 2 + 1, none⟩) hpq.symm _).ext (Ext.alloc _ _)
              · repeat (first | exact Ext.refl _ | assumption | (refine Ext.setCell' ?_ (by simp <;> omega) _) | refine Ext.alloc' ?_ _ | refine Ext.drew' ?_ | (refine Ext.trans _ _ _ ?_ (by assumption)))
            case measure => simp [intOf]; omega
          · have hbq1 := bq.1
            have hbp1 := bp.1
            go_wp2
            have B16 := (Box.alloc wr [.int .i64 0, .int .u64 0] 24).ext (Ext.alloc _ (.cells #[.int .i64 0, .int .u64 0] 24))
            have B17 := Box.alloc' (wr.alloc (.cells #[.int .i64 0, .int .u64 0] 24)) [.int .i64 0, .int .u64 0] 24 (wr.heap.size + 1) (by simp)
            have bq := (bq.ext (Ext.alloc _ (.cells #[.int .i64 0, .int .u64 0] 24))).ext (Ext.alloc _ (.cells #[.int .i64 0, .int .u64 0] 24))
            have bp := (bp.ext (Ext.alloc _ (.cells #[.int .i64 0, .int .u64 0] 24))).ext (Ext.alloc _ (.cells #[.int .i64 0, .int .u64 0] 24))
            have sq0 := hbq1
            have sp0 := hbp1
            have hz := hx.size
            generalize wr.heap.size = z at *
            clear ca cx cat wa wx wat
            go_loopw [18] (fun t wr => ∃ i : Nat, t = .int .i64 i ∧ i ≤ x.length ∧ Box wr z [.int .i64 (hi (sumTo P i)), .int .u64 (lo (sumTo P i))] ∧ Box wr (z + 1) [.int .i64 (hi (sumTo Q i)), .int .u64 (lo (sumTo Q i))] ∧ Box wr gq (wcells Q) ∧ Box wr gp (wcells P) ∧ Ext w wr) (fun t _ => x.length - (intOf t).toNat)
            case atStart => exact ⟨0, rfl, by omega, by simpa [sumTo_zero, zero_hi, zero_lo] using B16, by simpa [sumTo_zero, zero_hi, zero_lo] using B17, bq, bp, by (repeat (first | exact Ext.refl _ | assumption | (refine Ext.setCell' ?_ (by simp <;> omega) _) | refine Ext.alloc' ?_ _ | refine Ext.drew' ?_ | (refine Ext.trans _ _ _ ?_ (by assumption))))⟩
            case round =>
              clear bq bp hx B16 B17
              obtain ⟨i, rfl, hi3, b16, b17, bq, bp, hx⟩ := hrel
              obtain ⟨s6, c60, c61, f6⟩ := b16.two
              obtain ⟨s7, c70, c71, f7⟩ := b17.two
              by_cases hlt3 : i < x.length
              · obtain ⟨cp0, cp1⟩ := wbox_at bp i (by omega)
                obtain ⟨cq0, cq1⟩ := wbox_at bq i (by omega)
                have sp := bp.1
                have sq := bq.1
                have HE1 := Lib.hid (sumTo_succ P i (by omega))
                have HE2 := Lib.hid ((sumTo_succ Q i (by omega)).trans (Int.add_comm _ _))
                generalize P.getD i 0 = x1 at *
                generalize hx2 : Q.getD i 0 = x2 at *
                generalize sumTo P i = S1 at *
                generalize sumTo Q i = S2 at *
                go_wp2
                refine wp_region_rel_tail 6 139 Ext Ext.refl Ext.trans (by kernel_rfl) rfl (by kernel_rfl) ?_
                simp only [List.take_succ_cons, List.take_zero, List.drop_succ_cons, List.drop_zero]
                iterate 6
                  first
                    | (refine wpRel_skip ?_ ?_
                       · (simp [go_sem]; done)
                       simp only [Act.put, List.setIfInBounds_toArray, List.set_cons_zero, List.set_cons_succ])
                    | (refine wpRel_ex ?_ ?_
                       · (simp [go_sem]; done)
                       apply Exists.intro
                       refine ⟨fun σ w' hR hF => ?_, ?_⟩
                       · have hcell := (Ext.trans _ _ _ (Ext.drew _) hR).cell
                         clear hF
                         simp only [fill]
                         go_simp
                         first
                           | (go_at_call 30; refine (ring_Add5 _ _ _).mono ?_; rintro e w1 ⟨rfl, h1⟩; exact ⟨rfl, h1⟩)
                           | exact ⟨Ext.refl _, rfl⟩
                       simp only [Act.put, List.setIfInBounds_toArray, List.set_cons_zero, List.set_cons_succ])
                intro σ w2 hRw2 _
                have hEw2 := Ext.trans _ _ _ (Ext.drew _) hRw2
                have hcellw2 := hEw2.cell
                have hfreew2 := hEw2.free
                simp only [fill]
                have hxw2 : Ext w w2 := by (repeat (first | exact Ext.refl _ | assumption | (refine Ext.setCell' ?_ (by simp <;> omega) _) | refine Ext.alloc' ?_ _ | refine Ext.drew' ?_ | (refine Ext.trans _ _ _ ?_ (by assumption))))
                have b16 := b16.ext hEw2
                have b17 := b17.ext hEw2
                have bq := bq.ext hEw2
                have bp := bp.ext hEw2
                obtain ⟨s6, c60, c61, f6⟩ := b16.two
                go_wp2
                have hxw3 : Ext w ((w2.setCell ⟨z, 0, none⟩ (.int .i64 (hi (S1 + x1)))).setCell ⟨z, 1, none⟩ (.int .u64 (lo (S1 + x1)))) := by (repeat (first | exact Ext.refl _ | assumption | (refine Ext.setCell' ?_ (by simp <;> omega) _) | refine Ext.alloc' ?_ _ | refine Ext.drew' ?_ | (refine Ext.trans _ _ _ ?_ (by assumption))))
                have b16 := b16.set2 (.int .i64 (hi (S1 + x1))) (.int .u64 (lo (S1 + x1)))
                have b17 := b17.far2 z (by omega) (.int .i64 (hi (S1 + x1))) (.int .u64 (lo (S1 + x1)))
                have bq := bq.far2 z (by omega) (.int .i64 (hi (S1 + x1))) (.int .u64 (lo (S1 + x1)))
                have bp := bp.far2 z (by omega) (.int .i64 (hi (S1 + x1))) (.int .u64 (lo (S1 + x1)))
                generalize (w2.setCell ⟨z, 0, none⟩ (.int .i64 (hi (S1 + x1)))).setCell ⟨z, 1, none⟩ (.int .u64 (lo (S1 + x1))) = w3 at *
                obtain ⟨s7, c70, c71, f7⟩ := b17.two
                obtain ⟨cq0, cq1⟩ := wbox_at bq i (by omega)
                have sq := bq.1
                rw [hx2] at cq0 cq1
                clear cp0 cp1 c60 c61 f6
                refine wp_region_rel_tail 6 139 Ext Ext.refl Ext.trans (by kernel_rfl) rfl (by kernel_rfl) ?_
                simp only [List.take_succ_cons, List.take_zero, List.drop_succ_cons, List.drop_zero]
                iterate 6
                  first
                    | (refine wpRel_skip ?_ ?_
                       · (simp [go_sem]; done)
                       simp only [Act.put, List.setIfInBounds_toArray, List.set_cons_zero, List.set_cons_succ])
                    | (refine wpRel_ex ?_ ?_
                       · (simp [go_sem]; done)
                       apply Exists.intro
                       refine ⟨fun σ w' hR hF => ?_, ?_⟩
                       · have hcell := (Ext.trans _ _ _ (Ext.drew _) hR).cell
                         clear hF
                         simp only [fill]
                         go_simp
                         first
                           | (go_at_call 30; refine (ring_Add5 _ _ _).mono ?_; rintro e w1 ⟨rfl, h1⟩; exact ⟨rfl, h1⟩)
                           | exact ⟨Ext.refl _, rfl⟩
                       simp only [Act.put, List.setIfInBounds_toArray, List.set_cons_zero, List.set_cons_succ])
                intro σ w4 hRw4 _
                have hEw4 := Ext.trans _ _ _ (Ext.drew _) hRw4
                have hcellw4 := hEw4.cell
                have hfreew4 := hEw4.free
                simp only [fill]
                have hxw4 : Ext w w4 := by (repeat (first | exact Ext.refl _ | assumption | (refine Ext.setCell' ?_ (by simp <;> omega) _) | refine Ext.alloc' ?_ _ | refine Ext.drew' ?_ | (refine Ext.trans _ _ _ ?_ (by assumption))))
                have b16 := b16.ext hEw4
                have b17 := b17.ext hEw4
                have bq := bq.ext hEw4
                have bp := bp.ext hEw4
                obtain ⟨s7, c70, c71, f7⟩ := b17.two
                go_wp2
                go_roundw
                case rel =>
                  refine ⟨i + 1, by go_num, by omega, ?_, ?_, bq.far2 (z + 1) (by omega) _ _, bp.far2 (z + 1) (by omega) _ _, by (repeat (first | exact Ext.refl _ | assumption | (refine Ext.setCell' ?_ (by simp <;> omega) _) | refine Ext.alloc' ?_ _ | refine Ext.drew' ?_ | (refine Ext.trans _ _ _ ?_ (by assumption))))⟩
                  · rw [HE1.out]; exact b16.far2 (z + 1) (by omega) _ _
                  · rw [HE2.out]; exact b17.set2 _ _
                case measure => simp [intOf]; omega
              · have hi4 : i = x.length := by omega
                subst hi4
                have eS : sumTo Q x.length = sumTo P x.length := by rw [sumTo_all Q _ hQ, sumTo_all P _ hP]; exact hS
                rw [eS] at b17
                obtain ⟨s6, c60, c61, f6⟩ := b16.two
                obtain ⟨s7, c70, c71, f7⟩ := b17.two
                go_wp2
                go_loopw [20] (fun t wr => ∃ i : Nat, t = .int .i64 i ∧ i ≤ x.length ∧ Box wr z [.int .i64 (hi (sumTo P x.length - sumTo P i)), .int .u64 (lo (sumTo P x.length - sumTo P i))] ∧ Box wr gp (wcells P) ∧ Ext w wr) (fun t _ => x.length - (intOf t).toNat)
                case atStart => exact ⟨0, rfl, by omega, by simpa [sumTo_zero] using b16, bp, by (repeat (first | exact Ext.refl _ | assumption | (refine Ext.setCell' ?_ (by simp <;> omega) _) | refine Ext.alloc' ?_ _ | refine Ext.drew' ?_ | (refine Ext.trans _ _ _ ?_ (by assumption))))⟩
                case round =>
                  clear bq bp b16 b17 s6 s7 c60 c61 c70 c71 f6 f7 hx
                  obtain ⟨i, rfl, hi5, b16, bp, hx⟩ := hrel
                  by_cases hlt5 : i < x.length
                  · obtain ⟨s6, c60, c61, f6⟩ := b16.two
                    obtain ⟨cp0, cp1⟩ := wbox_at bp i (by omega)
                    have sp := bp.1
                    have HE1 := Lib.hid (show sumTo P x.length - sumTo P (i + 1) = sumTo P x.length - sumTo P i - P.getD i 0 by rw [sumTo_succ P i (by omega)]; omega)
                    generalize P.getD i 0 = x1 at *
                    generalize sumTo P x.length - sumTo P i = S1 at *
                    go_wp2
                    refine wp_region_rel_tail 6 139 Ext Ext.refl Ext.trans (by kernel_rfl) rfl (by kernel_rfl) ?_
                    simp only [List.take_succ_cons, List.take_zero, List.drop_succ_cons, List.drop_zero]
                    iterate 6
                      first
                        | (refine wpRel_skip ?_ ?_
                           · (simp [go_sem]; done)
                           simp only [Act.put, List.setIfInBounds_toArray, List.set_cons_zero, List.set_cons_succ])
                        | (refine wpRel_ex ?_ ?_
                           · (simp [go_sem]; done)
                           apply Exists.intro
                           refine ⟨fun σ w' hR hF => ?_, ?_⟩
                           · have hcell := (Ext.trans _ _ _ (Ext.drew _) hR).cell
                             clear hF
                             simp only [fill]
                             go_simp
                             first
                               | (go_at_call 20; refine (wide_Sub _ _ _).mono ?_; rintro e w1 ⟨rfl, h1⟩; exact ⟨rfl, h1⟩)
                               | exact ⟨Ext.refl _, rfl⟩
                           simp only [Act.put, List.setIfInBounds_toArray, List.set_cons_zero, List.set_cons_succ])
                    intro σ w2 hRw2 _
                    have hEw2 := Ext.trans _ _ _ (Ext.drew _) hRw2
                    have hcellw2 := hEw2.cell
                    have hfreew2 := hEw2.free
                    simp only [fill]
                    have hxw2 : Ext w w2 := by (repeat (first | exact Ext.refl _ | assumption | (refine Ext.setCell' ?_ (by simp <;> omega) _) | refine Ext.alloc' ?_ _ | refine Ext.drew' ?_ | (refine Ext.trans _ _ _ ?_ (by assumption))))
                    have b16 := b16.ext hEw2
                    have bp := bp.ext hEw2
                    obtain ⟨s6, c60, c61, f6⟩ := b16.two
                    go_wp2
                    go_roundw
                    case rel =>
                      refine ⟨i + 1, by go_num, by omega, ?_, bp.far2 z (by omega) _ _, by (repeat (first | exact Ext.refl _ | assumption | (refine Ext.setCell' ?_ (by simp <;> omega) _) | refine Ext.alloc' ?_ _ | refine Ext.drew' ?_ | (refine Ext.trans _ _ _ ?_ (by assumption))))⟩
                      rw [HE1.out]; exact b16.set2 _ _
                    case measure => simp [intOf]; omega
                  · have hi6 : i = x.length := by omega
                    subst hi6
                    rw [Int.sub_self, zero_hi, zero_lo] at b16
                    obtain ⟨s6, c60, c61, f6⟩ := b16.two
                    have g1 : nar 5 = 5 := by decide
                    have g2 : fits 5 = true := by decide
                    go_wp2_with (first | (go_at_call 14; refine (wide_Of _ (by unfold I64; omega) _).mono ?_; rintro e w1 ⟨rfl, k1⟩; have b16 := b16.ext k1; obtain ⟨s6, c60, c61, f6⟩ := b16.two) | (go_at_call 11; refine (wide_Narrow _ (by unfold W128; omega) _).mono ?_; rintro e w1 ⟨rfl, k1⟩; have b16 := b16.ext k1; obtain ⟨s6, c60, c61, f6⟩ := b16.two))
                    go_ret
                    exact ⟨rfl, by (repeat (first | exact Ext.refl _ | assumption | (refine Ext.setCell' ?_ (by simp <;> omega) _) | refine Ext.alloc' ?_ _ | refine Ext.drew' ?_ | (refine Ext.trans _ _ _ ?_ (by assumption))))⟩
        · have hbq1 := bq.1
          have hbp1 := bp.1
          go_wp2
          have B16 := (Box.alloc wr [.int .i64 0, .int .u64 0] 24).ext (Ext.alloc _ (.cells #[.int .i64 0, .int .u64 0] 24))
          have B17 := Box.alloc' (wr.alloc (.cells #[.int .i64 0, .int .u64 0] 24)) [.int .i64 0, .int .u64 0] 24 (wr.heap.size + 1) (by simp)
          have bq := (bq.ext (Ext.alloc _ (.cells #[.int .i64 0, .int .u64 0] 24))).ext (Ext.alloc _ (.cells #[.int .i64 0, .int .u64 0] 24))
          have bp := (bp.ext (Ext.alloc _ (.cells #[.int .i64 0, .int .u64 0] 24))).ext (Ext.alloc _ (.cells #[.int .i64 0, .int .u64 0] 24))
          have sq0 := hbq1
          have sp0 := hbp1
          have hz := hx.size
          generalize wr.heap.size = z at *
          clear ca cx cat wa wx wat
          go_loopw [18] (fun t wr => ∃ i : Nat, t = .int .i64 i ∧ i ≤ x.length ∧ Box wr z [.int .i64 (hi (sumTo P i)), .int .u64 (lo (sumTo P i))] ∧ Box wr (z + 1) [.int .i64 (hi (sumTo Q i)), .int .u64 (lo (sumTo Q i))] ∧ Box wr gq (wcells Q) ∧ Box wr gp (wcells P) ∧ Ext w wr) (fun t _ => x.length - (intOf t).toNat)
          case atStart => exact ⟨0, rfl, by omega, by simpa [sumTo_zero, zero_hi, zero_lo] using B16, by simpa [sumTo_zero, zero_hi, zero_lo] using B17, bq, bp, by (repeat (first | exact Ext.refl _ | assumption | (refine Ext.setCell' ?_ (by simp <;> omega) _) | refine Ext.alloc' ?_ _ | refine Ext.drew' ?_ | (refine Ext.trans _ _ _ ?_ (by assumption))))⟩
          case round =>
            clear bq bp hx B16 B17
            obtain ⟨i, rfl, hi3, b16, b17, bq, bp, hx⟩ := hrel
            obtain ⟨s6, c60, c61, f6⟩ := b16.two
            obtain ⟨s7, c70, c71, f7⟩ := b17.two
            by_cases hlt3 : i < x.length
            · obtain ⟨cp0, cp1⟩ := wbox_at bp i (by omega)
              obtain ⟨cq0, cq1⟩ := wbox_at bq i (by omega)
              have sp := bp.1
              have sq := bq.1
              have HE1 := Lib.hid (sumTo_succ P i (by omega))
              have HE2 := Lib.hid ((sumTo_succ Q i (by omega)).trans (Int.add_comm _ _))
              generalize P.getD i 0 = x1 at *
              generalize hx2 : Q.getD i 0 = x2 at *
              generalize sumTo P i = S1 at *
              generalize sumTo Q i = S2 at *
              go_wp2
              refine wp_region_rel_tail 6 139 Ext Ext.refl Ext.trans (by kernel_rfl) rfl (by kernel_rfl) ?_
              simp only [List.take_succ_cons, List.take_zero, List.drop_succ_cons, List.drop_zero]
              iterate 6
                first
                  | (refine wpRel_skip ?_ ?_
                     · (simp [go_sem]; done)
                     simp only [Act.put, List.setIfInBounds_toArray, List.set_cons_zero, List.set_cons_succ])
                  | (refine wpRel_ex ?_ ?_
                     · (simp [go_sem]; done)
                     apply Exists.intro
                     refine ⟨fun σ w' hR hF => ?_, ?_⟩
                     · have hcell := (Ext.trans _ _ _ (Ext.drew _) hR).cell
                       clear hF
                       simp only [fill]
                       go_simp
                       first
                         | (go_at_call 30; refine (ring_Add5 _ _ _).mono ?_; rintro e w1 ⟨rfl, h1⟩; exact ⟨rfl, h1⟩)
                         | exact ⟨Ext.refl _, rfl⟩
                     simp only [Act.put, List.setIfInBounds_toArray, List.set_cons_zero, List.set_cons_succ])
              intro σ w2 hRw2 _
              have hEw2 := Ext.trans _ _ _ (Ext.drew _) hRw2
              have hcellw2 := hEw2.cell
              have hfreew2 := hEw2.free
              simp only [fill]
              have hxw2 : Ext w w2 := by (repeat (first | exact Ext.refl _ | assumption | (refine Ext.setCell' ?_ (by simp <;> omega) _) | refine Ext.alloc' ?_ _ | refine Ext.drew' ?_ | (refine Ext.trans _ _ _ ?_ (by assumption))))
              have b16 := b16.ext hEw2
              have b17 := b17.ext hEw2
              have bq := bq.ext hEw2
              have bp := bp.ext hEw2
              obtain ⟨s6, c60, c61, f6⟩ := b16.two
              go_wp2
              have hxw3 : Ext w ((w2.setCell ⟨z, 0, none⟩ (.int .i64 (hi (S1 + x1)))).setCell ⟨z, 1, none⟩ (.int .u64 (lo (S1 + x1)))) := by (repeat (first | exact Ext.refl _ | assumption | (refine Ext.setCell' ?_ (by simp <;> omega) _) | refine Ext.alloc' ?_ _ | refine Ext.drew' ?_ | (refine Ext.trans _ _ _ ?_ (by assumption))))
              have b16 := b16.set2 (.int .i64 (hi (S1 + x1))) (.int .u64 (lo (S1 + x1)))
              have b17 := b17.far2 z (by omega) (.int .i64 (hi (S1 + x1))) (.int .u64 (lo (S1 + x1)))
              have bq := bq.far2 z (by omega) (.int .i64 (hi (S1 + x1))) (.int .u64 (lo (S1 + x1)))
              have bp := bp.far2 z (by omega) (.int .i64 (hi (S1 + x1))) (.int .u64 (lo (S1 + x1)))
              generalize (w2.setCell ⟨z, 0, none⟩ (.int .i64 (hi (S1 + x1)))).setCell ⟨z, 1, none⟩ (.int .u64 (lo (S1 + x1))) = w3 at *
              obtain ⟨s7, c70, c71, f7⟩ := b17.two
              obtain ⟨cq0, cq1⟩ := wbox_at bq i (by omega)
              have sq := bq.1
              rw [hx2] at cq0 cq1
              clear cp0 cp1 c60 c61 f6
              refine wp_region_rel_tail 6 139 Ext Ext.refl Ext.trans (by kernel_rfl) rfl (by kernel_rfl) ?_
              simp only [List.take_succ_cons, List.take_zero, List.drop_succ_cons, List.drop_zero]
              iterate 6
                first
                  | (refine wpRel_skip ?_ ?_
                     · (simp [go_sem]; done)
                     simp only [Act.put, List.setIfInBounds_toArray, List.set_cons_zero, List.set_cons_succ])
                  | (refine wpRel_ex ?_ ?_
                     · (simp [go_sem]; done)
                     apply Exists.intro
                     refine ⟨fun σ w' hR hF => ?_, ?_⟩
                     · have hcell := (Ext.trans _ _ _ (Ext.drew _) hR).cell
                       clear hF
                       simp only [fill]
                       go_simp
                       first
                         | (go_at_call 30; refine (ring_Add5 _ _ _).mono ?_; rintro e w1 ⟨rfl, h1⟩; exact ⟨rfl, h1⟩)
                         | exact ⟨Ext.refl _, rfl⟩
                     simp only [Act.put, List.setIfInBounds_toArray, List.set_cons_zero, List.set_cons_succ])
              intro σ w4 hRw4 _
              have hEw4 := Ext.trans _ _ _ (Ext.drew _) hRw4
              have hcellw4 := hEw4.cell
              have hfreew4 := hEw4.free
              simp only [fill]
              have hxw4 : Ext w w4 := by (repeat (first | exact Ext.refl _ | assumption | (refine Ext.setCell' ?_ (by simp <;> omega) _) | refine Ext.alloc' ?_ _ | refine Ext.drew' ?_ | (refine Ext.trans _ _ _ ?_ (by assumption))))
              have b16 := b16.ext hEw4
              have b17 := b17.ext hEw4
              have bq := bq.ext hEw4
              have bp := bp.ext hEw4
              obtain ⟨s7, c70, c71, f7⟩ := b17.two
              go_wp2
              go_roundw
              case rel =>
                refine ⟨i + 1, by go_num, by omega, ?_, ?_, bq.far2 (z + 1) (by omega) _ _, bp.far2 (z + 1) (by omega) _ _, by (repeat (first | exact Ext.refl _ | assumption | (refine Ext.setCell' ?_ (by simp <;> omega) _) | refine Ext.alloc' ?_ _ | refine Ext.drew' ?_ | (refine Ext.trans _ _ _ ?_ (by assumption))))⟩
                · rw [HE1.out]; exact b16.far2 (z + 1) (by omega) _ _
                · rw [HE2.out]; exact b17.set2 _ _
              case measure => simp [intOf]; omega
            · have hi4 : i = x.length := by omega
              subst hi4
              have eS : sumTo Q x.length = sumTo P x.length := by rw [sumTo_all Q _ hQ, sumTo_all P _ hP]; exact hS
              rw [eS] at b17
              obtain ⟨s6, c60, c61, f6⟩ := b16.two
              obtain ⟨s7, c70, c71, f7⟩ := b17.two
              go_wp2
              go_loopw [20] (fun t wr => ∃ i : Nat, t = .int .i64 i ∧ i ≤ x.length ∧ Box wr z [.int .i64 (hi (sumTo P x.length - sumTo P i)), .int .u64 (lo (sumTo P x.length - sumTo P i))] ∧ Box wr gp (wcells P) ∧ Ext w wr) (fun t _ => x.length - (intOf t).toNat)
              case atStart => exact ⟨0, rfl, by omega, by simpa [sumTo_zero] using b16, bp, by (repeat (first | exact Ext.refl _ | assumption | (refine Ext.setCell' ?_ (by simp <;> omega) _) | refine Ext.alloc' ?_ _ | refine Ext.drew' ?_ | (refine Ext.trans _ _ _ ?_ (by assumption))))⟩
              case round =>
                clear bq bp b16 b17 s6 s7 c60 c61 c70 c71 f6 f7 hx
                obtain ⟨i, rfl, hi5, b16, bp, hx⟩ := hrel
                by_cases hlt5 : i < x.length
                · obtain ⟨s6, c60, c61, f6⟩ := b16.two
                  obtain ⟨cp0, cp1⟩ := wbox_at bp i (by omega)
                  have sp := bp.1
                  have HE1 := Lib.hid (show sumTo P x.length - sumTo P (i + 1) = sumTo P x.length - sumTo P i - P.getD i 0 by rw [sumTo_succ P i (by omega)]; omega)
                  generalize P.getD i 0 = x1 at *
                  generalize sumTo P x.length - sumTo P i = S1 at *
                  go_wp2
                  refine wp_region_rel_tail 6 139 Ext Ext.refl Ext.trans (by kernel_rfl) rfl (by kernel_rfl) ?_
                  simp only [List.take_succ_cons, List.take_zero, List.drop_succ_cons, List.drop_zero]
                  iterate 6
                    first
                      | (refine wpRel_skip ?_ ?_
                         · (simp [go_sem]; done)
                         simp only [Act.put, List.setIfInBounds_toArray, List.set_cons_zero, List.set_cons_succ])
                      | (refine wpRel_ex ?_ ?_
                         · (simp [go_sem]; done)
                         apply Exists.intro
                         refine ⟨fun σ w' hR hF => ?_, ?_⟩
                         · have hcell := (Ext.trans _ _ _ (Ext.drew _) hR).cell
                           clear hF
                           simp only [fill]
                           go_simp
                           first
                             | (go_at_call 20; refine (wide_Sub _ _ _).mono ?_; rintro e w1 ⟨rfl, h1⟩; exact ⟨rfl, h1⟩)
                             | exact ⟨Ext.refl _, rfl⟩
                         simp only [Act.put, List.setIfInBounds_toArray, List.set_cons_zero, List.set_cons_succ])
                  intro σ w2 hRw2 _
                  have hEw2 := Ext.trans _ _ _ (Ext.drew _) hRw2
                  have hcellw2 := hEw2.cell
                  have hfreew2 := hEw2.free
                  simp only [fill]
                  have hxw2 : Ext w w2 := by (repeat (first | exact Ext.refl _ | assumption | (refine Ext.setCell' ?_ (by simp <;> omega) _) | refine Ext.alloc' ?_ _ | refine Ext.drew' ?_ | (refine Ext.trans _ _ _ ?_ (by assumption))))
                  have b16 := b16.ext hEw2
                  have bp := bp.ext hEw2
                  obtain ⟨s6, c60, c61, f6⟩ := b16.two
                  go_wp2
                  go_roundw
                  case rel =>
                    refine ⟨i + 1, by go_num, by omega, ?_, bp.far2 z (by omega) _ _, by (repeat (first | exact Ext.refl _ | assumption | (refine Ext.setCell' ?_ (by simp <;> omega) _) | refine Ext.alloc' ?_ _ | refine Ext.drew' ?_ | (refine Ext.trans _ _ _ ?_ (by assumption))))⟩
                    rw [HE1.out]; exact b16.set2 _ _
                  case measure => simp [intOf]; omega
                · have hi6 : i = x.length := by omega
                  subst hi6
                  rw [Int.sub_self, zero_hi, zero_lo] at b16
                  obtain ⟨s6, c60, c61, f6⟩ := b16.two
                  have g1 : nar 5 = 5 := by decide
                  have g2 : fits 5 = true := by decide
                  go_wp2_with (first | (go_at_call 14; refine (wide_Of _ (by unfold I64; omega) _).mono ?_; rintro e w1 ⟨rfl, k1⟩; have b16 := b16.ext k1; obtain ⟨s6, c60, c61, f6⟩ := b16.two) | (go_at_call 11; refine (wide_Narrow _ (by unfold W128; omega) _).mono ?_; rintro e w1 ⟨rfl, k1⟩; have b16 := b16.ext k1; obtain ⟨s6, c60, c61, f6⟩ := b16.two))
                  go_ret
                  exact ⟨rfl, by (repeat (first | exact Ext.refl _ | assumption | (refine Ext.setCell' ?_ (by simp <;> omega) _) | refine Ext.alloc' ?_ _ | refine Ext.drew' ?_ | (refine Ext.trans _ _ _ ?_ (by assumption))))⟩
end Go.Proofs.Ytnalgofemikggaa
