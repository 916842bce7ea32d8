/- Times; the document's sums. The document's sums. -/
import Derived.Test.YtlbmjnammgffiaaE2
namespace Go.Proofs.Ytlbmjnammgffiaa
section
open Go.RowKit
attribute [local irreducible] FS FO IT HS

theorem sums_w {r : Int} {st col val : List Int} {f : List Nat} {v : List Int} (hval : Zb val) (hv : Zb v) (l : List Nat) : ∀ y ∈ sumsL (fun i => rowO r (dG f v) (rowL st col val i)) l, W128 y.2 := by
  intro y hy
  obtain ⟨i, _, h⟩ := List.mem_filterMap.1 hy
  obtain ⟨s, hs, rfl⟩ := Option.map_eq_some_iff.1 h
  exact rowO_w (dG_I hv) _ (fun x hx => mem_rowL hval hx) none (fun s h => by cases h) s hs
theorem sumsR_w {r : Int} {m : Mat5} {x : Den3} {g : List Nat} {o : Bool} (hval : Zb m.2.2.2.2) (hv : Zb x.2.2) : ∀ y ∈ (sumsR r m x g o).1, W128 y.2 := by
  unfold sumsR
  split
  · split
    · exact sums_w hval hv _
    · intro y hy; cases hy
  · intro y hy; cases hy
theorem sumsR_len {r : Int} {m : Mat5} {x : Den3} {g : List Nat} {o : Bool} (h : m.1 ≤ 4096) : (sumsR r m x g o).1.length ≤ 4096 := by
  unfold sumsR
  split
  · split
    · have h1 := sumsL_le (fun i => rowO r (dG x.2.1 x.2.2) (rowL m.2.2.1 m.2.2.2.1 m.2.2.2.2 i)) (askL m.1 g o)
      have h2 := askL_len m.1 g o
      show (sumsL _ _).length ≤ _
      omega
    · simp
  · simp
/-- A matrix times a vector. -/
def timesR (r : Int) (m : Mat5) (x : Den3) (g : List Nat) (o : Bool) : Int × List (Int × Int) × Int :=
  if (sumsR r m x g o).2 = 0 then doneR r m.1 (sumsR r m x g o).1 else (0, [], (sumsR r m x g o).2)

def ir_pull_Times : IR :=
(.seq (.reg (⟨(some 6), .bx (.t 1), none⟩ ::⟨(some 7), .bx (.t 2), none⟩ ::⟨(some 10), .al [.int .i64 0, .nils], none⟩ ::⟨(some 11), .mv (.c (.int .i64 0)), none⟩ :: [])) (.seq (.reg (⟨(some 15), .mv (.t 0), none⟩ ::⟨(some 16), .ld 5 true (.t 6), none⟩ ::⟨(some 17), .ld 3 true (.t 7), none⟩ ::⟨(some 18), .mv (.t 3), none⟩ ::⟨(some 19), .mv (.t 4), none⟩ ::⟨(some 20), .call (.c (.fn 8 [])) [(.t 15), (.t 16), (.t 17), (.t 18), (.t 19)], none⟩ ::⟨(some 14), .mv (.t 20), none⟩ ::⟨(some 21), .ex 0 (.t 14), none⟩ ::⟨(some 22), .ex 1 (.t 14), none⟩ ::⟨(some 12), .mv (.t 21), none⟩ ::⟨(some 13), .mv (.t 22), none⟩ :: [])) (.seq (.seq (.reg (⟨(some 23), .mv (.t 13), none⟩ ::⟨(some 24), .bin .neq (.t 23) (.c (.int .i64 0)), none⟩ :: [])) (.cond (.t 24) (.seq (.reg (⟨(some 25), .bld [.int .i64 0, .nils] [], none⟩ ::⟨(some 26), .mv (.t 13), none⟩ ::⟨none, .st 2 (.t 10) (.t 25), none⟩ ::⟨(some 11), .mv (.t 26), none⟩ :: [])) .ret) .skip)) (.seq (.reg (⟨(some 28), .ld 5 true (.t 6), none⟩ ::⟨(some 29), .ld 3 true (.t 7), none⟩ ::⟨(some 30), .call (.c (.fn 25 [])) [(.t 28), (.t 29)], none⟩ ::⟨(some 27), .mv (.t 30), none⟩ ::⟨(some 31), .ex 0 (.t 27), none⟩ ::⟨(some 32), .ex 1 (.t 27), none⟩ ::⟨none, .st 5 (.t 6) (.t 31), none⟩ :: [])) (.seq (.reg (⟨(some 33), .mv (.t 0), none⟩ ::⟨(some 34), .fa 0 (.t 6), none⟩ ::⟨(some 35), .ld 1 false (.t 34), none⟩ ::⟨(some 36), .mv (.t 12), none⟩ ::⟨(some 37), .call (.c (.fn 24 [])) [(.t 33), (.t 35), (.t 36)], none⟩ ::⟨(some 38), .ex 0 (.t 37), none⟩ ::⟨(some 39), .ex 1 (.t 37), none⟩ ::⟨none, .st 2 (.t 10) (.t 38), none⟩ ::⟨(some 11), .mv (.t 39), none⟩ :: [])) .ret)))))
theorem cd_pull_Times : Code1 Try.prog 15 40 ir_pull_Times [.c 2 true 10, .t 11] := ⟨Try.call15, _, _, Try.func15, rfl, by kernel_rfl, by kernel_rfl, by kernel_rfl, by kernel_rfl⟩

set_option maxHeartbeats 4000000 in
theorem fo_pTimes (r : Int) (rows cols : Int) (st col val : List Int) (n : Int) (f : List Nat) (v : List Int) (g : List Nat) (o : Bool) (hval : Zb val) (hn : I64 n) (hw : Wd f) (hf : f.length ≤ 1000000) (hv : v.length ≤ 1000000) (hvb : Zb v) (hg : Wd g) :
    FO Try.prog 15 [.int .i64 r, MX rows cols st col val, DV n f v, U g, .bool o] (VO (timesR r (mS rows cols st col val) (dS n f v) g o)) [.arr 2 (its (timesR r (mS rows cols st col val) (dS n f v) g o).2.1)] := by
  refine fo_of_cvc mixed cd_pull_Times (by simp) ?_
  have c1 := fs_pSums r rows cols st col val n f v g o hval hn hw hf hv hvb hg
  have c2 := fs_psure rows cols st col val n f v hn hw hf hv
  have hM := okM_mS rows cols st col val
  have hwS := sumsR_w (r := r) (m := mS rows cols st col val) (x := dS n f v) (g := g) (o := o) (zb_mS hval) (zb_dS hvb)
  have hlS := sumsR_len (r := r) (m := mS rows cols st col val) (x := dS n f v) (g := g) (o := o) hM.r1
  obtain ⟨t, ht⟩ : ∃ t, timesR r (mS rows cols st col val) (dS n f v) g o = t := ⟨_, rfl⟩
  rw [ht]
  unfold timesR at ht
  generalize sumsR r (mS rows cols st col val) (dS n f v) g o = S at *
  generalize mS rows cols st col val = m at *
  generalize dS n f v = d at *
  obtain ⟨L, e⟩ := S
  obtain ⟨mr, mc, ms, mk, mv⟩ := m
  obtain ⟨dn, df, dv⟩ := d
  have c1' : FS Try.prog 8 [.int .i64 r, MX rows cols st col val, DV n f v, U g, .bool o] (.tup [SM L, .int .i64 e]) := c1
  have c2' : FS Try.prog 25 [MX rows cols st col val, DV n f v] (.tup [MX mr mc ms mk mv, DV dn df dv]) := c2
  have c3 := fo_pDone r mr L (by simp only at hlS; omega) hwS
  simp only at ht
  by_cases he : e = 0
  · rw [if_pos he] at ht
    rw [ht] at c3
    unfold VO at c3
    repeat' (conv => whnf); first
      | ((refine Or.inl ⟨by rfl, _, c1', ?_⟩))
      | ((refine Or.inl ⟨by rfl, _, c2', ?_⟩))
      | ((refine Or.inr (Or.inl ⟨by rfl, _, _, c3, ?_⟩)))
      | ((refine Br.beq (by rfl) ?_))
      | ((refine Br.bne (by rfl) ?_))
      | ((refine And.intro (Or.inl (Nat.zero_le _)) ?_))
      | ((refine And.intro (show _ ≤ _ from Nat.le_of_ble_eq_true rfl) ?_))
      | ((refine And.intro (by intro y hy; simp at hy; subst hy; rfl) ?_))
      | (refine Br.tt ?_)
      | (refine Br.ff ?_)
      | (refine Br.dec (fun h => ?_) (fun h => ?_)) <;> try (exfalso; omega)
      | (refine Br.neg ?_)
      | (refine Br.mk (fun h => ?_) (fun h => ?_))
      | (refine And.intro rfl ?_)
      | (refine And.intro (by omega) ?_)
      | (refine ⟨_, Or.inl ⟨⟨by omega, by omega⟩, rfl⟩, ?_⟩)
      | (refine And.intro (by simp only [lens_all, zs_len, U_len, sms_len, its_len, ints_len]; first | done | omega) ?_)
      | (refine And.intro (Nat.le_refl _) ?_)
      | fail
    exact Or.inr (Or.inr (FoS.one 3 (MatL.tup (.cons (MatL.agg (.cons (.same _ rfl) (.cons (.osl 0 3 2 0 _ rfl) .nil))) (.cons (.same _ rfl) .nil))) rfl rfl))
  · rw [if_neg he] at ht
    subst ht
    repeat' (conv => whnf); first
      | ((refine Or.inl ⟨by rfl, _, c1', ?_⟩))
      | ((refine Br.beq (by rfl) ?_))
      | ((refine Br.bne (by rfl) ?_))
      | ((refine And.intro (Or.inl (Nat.zero_le _)) ?_))
      | ((refine And.intro (show _ ≤ _ from Nat.le_of_ble_eq_true rfl) ?_))
      | ((refine And.intro (by intro y hy; simp at hy; subst hy; rfl) ?_))
      | (refine Br.tt ?_)
      | (refine Br.ff ?_)
      | (refine Br.dec (fun h => ?_) (fun h => ?_)) <;> try (exfalso; omega)
      | (refine Br.neg ?_)
      | (refine Br.mk (fun h => ?_) (fun h => ?_))
      | (refine And.intro rfl ?_)
      | (refine And.intro (by omega) ?_)
      | (refine ⟨_, Or.inl ⟨⟨by omega, by omega⟩, rfl⟩, ?_⟩)
      | (refine And.intro (by simp only [lens_all, zs_len, U_len, sms_len, its_len, ints_len]; first | done | omega) ?_)
      | (refine And.intro (Nat.le_refl _) ?_)
      | fail
    exact fop_err

/-- The same, never written again. -/
theorem fz_VO (x : Int × List (Int × Int) × Int) : frzK 4 [.arr 2 (its x.2.1)] (VO x) fun y => y = VE x := by
  refine ⟨rfl, by rw [its_len]; simp, ?_⟩
  show SV.tup [.agg [.int .i64 x.1, .slc 2 (List.take x.2.1.length (List.drop 0 (its x.2.1)))], .int .i64 x.2.2] = VE x
  rw [frz_its]; rfl
theorem fs_pTimes (r : Int) (rows cols : Int) (st col val : List Int) (n : Int) (f : List Nat) (v : List Int) (g : List Nat) (o : Bool) (hval : Zb val) (hn : I64 n) (hw : Wd f) (hf : f.length ≤ 1000000) (hv : v.length ≤ 1000000) (hvb : Zb v) (hg : Wd g) :
    FS Try.prog 15 [.int .i64 r, MX rows cols st col val, DV n f v, U g, .bool o] (VE (timesR r (mS rows cols st col val) (dS n f v) g o)) :=
  fs_of_fo (fo_pTimes r rows cols st col val n f v g o hval hn hw hf hv hvb hg) (fz_VO _)
theorem fs_pDone (r n : Int) (l : List (Int × Int)) (hl : l.length ≤ 1000000) (hw : ∀ x ∈ l, W128 x.2) : FS Try.prog 24 [.int .i64 r, .int .i64 n, SM l] (VE (doneR r n l)) :=
  fs_of_fo (fo_pDone r n l hl hw) (fz_VO _)

/-! ### '==' on sums -/
theorem eqFields_two {P : Program} {w : World} {d : Nat} {A : Nat → Prop} {β : List (Option Nat)} {xs ys : List Value} {k k2 k3 : IntKind} {a b c a' b' c' : Int} (hx : Reps w A β [.int k a, .int k2 b, .int k3 c] xs) (hy : Reps w A β [.int k a', .int k2 b', .int k3 c'] ys) {f1 f2 : Field} {fields2 : Array Field}
    (h11 : f1.name ≠ "_") (h12 : f1.offset = 0) (h13 : P.underlying f1.type = some (.int k)) (h14 : szOf P f1.type = some 1) (h15 : aggOf P f1.type = some false)
    (h21 : f2.name ≠ "_") (h22 : f2.offset = 1) (h23 : P.underlying f2.type = some (.struct fields2)) (h24 : szOf P f2.type = some 2) (h25 : aggOf P f2.type = some true) (h26 : P.stoodInHeld f2.type = false) (hf : Flat P fields2.toList [k2, k3] 0) :
    (Op.eqFields (d + 2) xs.toArray ys.toArray [f1, f2]).run P w = .ok (decide (a = a') && decide ([b, c] = [b', c'])) w := by
  obtain ⟨u, p1, p2⟩ := part_field (P := P) (w := w) h14 h15 (o := 0) (show PartOf 1 false [.int k a, .int k2 b, .int k3 c] 0 (.int k a) from rfl) hx
  obtain ⟨v, q1, q2⟩ := part_field (P := P) (w := w) h14 h15 (o := 0) (show PartOf 1 false [.int k a', .int k2 b', .int k3 c'] 0 (.int k a') from rfl) hy
  rw [rep_int p2] at p1
  rw [rep_int q2] at q1
  obtain ⟨u2, p3, p4⟩ := part_field (P := P) (w := w) h24 h25 (o := 1) (show PartOf 2 true [.int k a, .int k2 b, .int k3 c] 1 (.agg [.int k2 b, .int k3 c]) from ⟨by simp, rfl⟩) hx
  obtain ⟨v2, q3, q4⟩ := part_field (P := P) (w := w) h24 h25 (o := 1) (show PartOf 2 true [.int k a', .int k2 b', .int k3 c'] 1 (.agg [.int k2 b', .int k3 c']) from ⟨by simp, rfl⟩) hy
  have he := run_equalIn_int (P := P) w (d + 1) f1.type k k a a' h13
  cases p4 with
  | agg _ _ us hl1 hr1 =>
    cases q4 with
    | agg _ _ vs hl2 hr2 =>
      have ht' : P.underlying f2.type = some (.struct (P.fieldsOf f2.type)) := by simp [Program.fieldsOf, h23]
      have hfo : P.fieldsOf f2.type = fields2 := by simp [Program.fieldsOf, h23]
      have hin := run_equalIn_agg (P := P) w (d + 1) f2.type us.toArray vs.toArray ht' h26
      have hl : ∀ (x y : Int), ∀ i, i < [k2, k3].length → [SV.int k2 x, SV.int k3 y][0 + i]? = (kints [k2, k3] [x, y])[i]? := fun x y i _ => by rw [Nat.zero_add]; rfl
      have h := eqFields_flat (P := P) (w := w) (d := d) (A := A) (β := β) (xs := us) (ys := vs) ⟨hl1, hr1⟩ ⟨hl2, hr2⟩ fields2.toList [k2, k3] 0 [b, c] [b', c'] hf rfl rfl (hl b c) (hl b' c')
      rw [hfo, h] at hin
      simp only [Op.eqFields, if_pos h11, if_pos h21, h12, h22, Sem.run_bind, p1, q1, Result.andThen_ok, he]
      by_cases hab : a = a'
      · subst hab
        generalize decide ([b, c] = [b', c']) = z at *
        cases z <;> simp [p3, q3, hin, Result.andThen_ok]
      · have : (a == a') = false := by simpa using hab
        simp [this, hab]

theorem eqok_two {P : Program} {t : TypeId} (neg : Bool) {k k2 k3 : IntKind} {a b c a' b' c' : Int} {f1 f2 : Field} {fields2 : Array Field} (ht0 : P.underlying t = some (.struct #[f1, f2])) (hp : P.stoodInHeld t = false) (hm : P.eqGuardType P.depth t = false)
    (h11 : f1.name ≠ "_") (h12 : f1.offset = 0) (h13 : P.underlying f1.type = some (.int k)) (h14 : szOf P f1.type = some 1) (h15 : aggOf P f1.type = some false)
    (h21 : f2.name ≠ "_") (h22 : f2.offset = 1) (h23 : P.underlying f2.type = some (.struct fields2)) (h24 : szOf P f2.type = some 2) (h25 : aggOf P f2.type = some true) (h26 : P.stoodInHeld f2.type = false) (hf : Flat P fields2.toList [k2, k3] 0) :
    EqOk P neg t [.int k a, .int k2 b, .int k3 c] [.int k a', .int k2 b', .int k3 c'] (match neg with | true => !(decide (a = a') && decide ([b, c] = [b', c'])) | false => decide (a = a') && decide ([b, c] = [b', c'])) := by
  intro w A β u v p q hu hv
  have ht : P.underlying t = some (.struct (P.fieldsOf t)) := by simp [Program.fieldsOf, ht0]
  have hfo : P.fieldsOf t = #[f1, f2] := by simp [Program.fieldsOf, ht0]
  cases hu with
  | agg _ _ xs hlx hxs =>
    cases hv with
    | agg _ _ ys hly hys =>
      have h := eqFields_two (P := P) (w := w) (d := 9997) (A := A) (β := β) (xs := xs) (ys := ys) ⟨hlx, hxs⟩ ⟨hly, hys⟩ h11 h12 h13 h14 h15 h21 h22 h23 h24 h25 h26 hf
      have hin := run_equalIn_agg (P := P) w 9999 t xs.toArray ys.toArray ht hp
      rw [hfo, h] at hin
      cases neg with
      | false =>
        have hg := run_eqGuard_agg (P := P) w .eql t p q xs.toArray ys.toArray hm
        have hb := run_eql_struct (P := P) w t xs.toArray ys.toArray
        simp only [Bool.false_eq_true, if_false, Sem.run_bind, hg, Result.andThen_ok, hb, hin]
      | true =>
        have hg := run_eqGuard_agg (P := P) w .neq t p q xs.toArray ys.toArray hm
        have hb := run_neq_struct (P := P) w t xs.toArray ys.toArray
        simp only [if_true, Sem.run_bind, hg, Result.andThen_ok, hb, hin]

theorem eqs (neg : Bool) (x y : Int × Int) (hx : W128 x.2) (hy : W128 y.2) : EqOk Try.prog neg 62 [.int .i64 x.1, .int .i64 (hi x.2), .int .u64 (lo x.2)] [.int .i64 y.1, .int .i64 (hi y.2), .int .u64 (lo y.2)] (match neg with | true => !(decide (x = y)) | false => decide (x = y)) := by
  have h := eqok_two (P := Try.prog) (k := .i64) (k2 := .i64) (k3 := .u64) (a := x.1) (b := hi x.2) (c := lo x.2) (a' := y.1) (b' := hi y.2) (c' := lo y.2) neg Try.underlying62 (by kernel_rfl) (by kernel_rfl)
    (by decide) rfl (by kernel_rfl) (by kernel_rfl) (by kernel_rfl) (by decide) rfl Try.underlying60 (by kernel_rfl) (by kernel_rfl) (by kernel_rfl) ⟨by decide, rfl, by kernel_rfl, by kernel_rfl, by kernel_rfl, by decide, rfl, by kernel_rfl, by kernel_rfl, by kernel_rfl, trivial⟩
  have hd : decide (x = y) = (decide (x.1 = y.1) && decide ([hi x.2, lo x.2] = [hi y.2, lo y.2])) := by
    rw [Bool.eq_iff_iff, Bool.and_eq_true, decide_eq_true_eq, decide_eq_true_eq, decide_eq_true_eq]
    constructor
    · rintro rfl; exact ⟨rfl, rfl⟩
    · rintro ⟨h1, h2⟩
      simp only [List.cons.injEq, and_true] at h2
      exact Prod.ext h1 (eq_of_halves hx hy h2.1 h2.2)
  rw [hd]
  exact h

def ir_fretworkref13_SameSums : IR :=
(.seq (.reg (⟨(some 4), .mv (.c (.bool false)), none⟩ :: [])) (.seq (.seq (.reg (⟨(some 6), .mv (.t 0), none⟩ ::⟨(some 7), .ln (.t 6), none⟩ ::⟨(some 8), .mv (.t 1), none⟩ ::⟨(some 9), .ln (.t 8), none⟩ ::⟨(some 10), .bin .neq (.t 7) (.t 9), none⟩ :: [])) (.cond (.t 10) (.seq (.reg (⟨(some 4), .mv (.c (.bool false)), none⟩ :: [])) .ret) .skip)) (.seq (.seq (.reg (⟨(some 5), .mv (.c (.int .i64 0)), none⟩ :: [])) (.block 0 (.loop (.seq (.seq (.reg (⟨(some 11), .mv (.t 5), none⟩ ::⟨(some 12), .mv (.t 0), none⟩ ::⟨(some 13), .ln (.t 12), none⟩ ::⟨(some 14), .bin .lss (.t 11) (.t 13), none⟩ :: [])) (.cond (.t 14) .skip (.exit 0))) (.seq (.block 1 (.seq (.draw (⟨(some 17), .mv (.t 0), none⟩ ::⟨(some 18), .mv (.t 5), none⟩ ::⟨(some 19), .ia 3 (.t 17) (.t 18), none⟩ ::⟨(some 20), .ld 3 true (.t 19), none⟩ ::⟨(some 21), .mv (.t 1), none⟩ ::⟨(some 22), .mv (.t 5), none⟩ ::⟨(some 23), .ia 3 (.t 21) (.t 22), none⟩ ::⟨(some 24), .ld 3 true (.t 23), none⟩ :: []) (⟨(some 25), .eqv true 62 (.t 20) (.t 24), none⟩ :: [])) (.cond (.t 25) (.seq (.reg (⟨(some 4), .mv (.c (.bool false)), none⟩ :: [])) .ret) .skip))) (.reg (⟨(some 15), .mv (.t 5), none⟩ ::⟨(some 16), .bin .add (.t 15) (.c (.int .i64 1)), none⟩ ::⟨(some 5), .mv (.t 16), none⟩ :: []))))))) (.seq (.reg (⟨(some 4), .mv (.c (.bool true)), none⟩ :: [])) .ret))))
theorem cd_fretworkref13_SameSums : Code1 Try.prog 10 26 ir_fretworkref13_SameSums [.t 4] := ⟨Try.call10, _, _, Try.func10, rfl, by kernel_rfl, by kernel_rfl, by kernel_rfl, by kernel_rfl⟩

theorem fs_SameSums (a b : List (Int × Int)) (hl : a.length ≤ 1000000000) (ha : ∀ x ∈ a, W128 x.2) (hb : ∀ x ∈ b, W128 x.2) : FS Try.prog 10 [SM a, SM b] (.bool (decide (a = b))) := by
  refine fs_of_cvc mixed cd_fretworkref13_SameSums (by simp) ?_
  have hal := sms_len a
  have hbl := sms_len b
  repeat' (conv => whnf); first
    | ((refine Br.beq (by rfl) ?_))
    | ((refine Br.bne (by rfl) ?_))
    | ((refine And.intro (Or.inl (Nat.zero_le _)) ?_))
    | ((refine And.intro (show _ ≤ _ from Nat.le_of_ble_eq_true rfl) ?_))
    | ((refine And.intro (by intro y hy; simp at hy; subst hy; rfl) ?_))
    | (refine Br.tt ?_)
    | (refine Br.ff ?_)
    | (refine Br.dec (fun h => ?_) (fun h => ?_)) <;> try (exfalso; omega)
    | (refine Br.neg ?_)
    | (refine Br.mk (fun h => ?_) (fun h => ?_))
    | (refine And.intro rfl ?_)
    | (refine And.intro (by omega) ?_)
    | (refine ⟨_, Or.inl ⟨⟨by omega, by omega⟩, rfl⟩, ?_⟩)
    | (refine And.intro (by simp only [lens_all, zs_len, U_len, sms_len, its_len, ints_len]; first | done | omega) ?_)
    | (refine And.intro (Nat.le_refl _) ?_)
    | fail
  · show SV.bool false = _
    rw [decide_eq_false]; intro e; subst e; omega
  have hlen : a.length = b.length := by omega
  refine ⟨Nat, fun k => k ≤ a.length ∧ a.take k = b.take k, fun k => [(0, SM a), (1, SM b), (5, .int .i64 (k : Int))], fun k => [], fun _ => none, fun k => a.length - k, ⟨0, ⟨by omega, rfl⟩, ⟨rfl, rfl, rfl, trivial⟩, trivial, rfl⟩, fun k hk => ?_⟩
  have hk' : k ≤ a.length := hk.1
  by_cases hkl : k < a.length
  · obtain ⟨x, hx⟩ : ∃ x, a.getD k (0, 0) = x := ⟨_, rfl⟩
    obtain ⟨y, hy⟩ : ∃ y, b.getD k (0, 0) = y := ⟨_, rfl⟩
    have hxk : a[k]? = some x := by rw [← hx]; exact getD_some hkl
    have hyk : b[k]? = some y := by rw [← hy]; exact getD_some (by omega)
    have c := eqs true x y (ha x (List.mem_of_getElem? hxk)) (hb y (List.mem_of_getElem? hyk))
    repeat' (conv => whnf); first
      | ((refine sms_go (i := k) (by omega) hx ?_))
      | ((refine sms_go (i := k) (by omega) hy ?_))
      | ((refine ⟨_, c, ?_⟩))
      | ((refine Br.beq (by rfl) ?_))
      | ((refine Br.bne (by rfl) ?_))
      | ((refine And.intro (Or.inl (Nat.zero_le _)) ?_))
      | ((refine And.intro (show _ ≤ _ from Nat.le_of_ble_eq_true rfl) ?_))
      | ((refine And.intro (by intro y hy; simp at hy; subst hy; rfl) ?_))
      | (refine Br.tt ?_)
      | (refine Br.ff ?_)
      | (refine Br.dec (fun h => ?_) (fun h => ?_)) <;> try (exfalso; omega)
      | (refine Br.neg ?_)
      | (refine Br.mk (fun h => ?_) (fun h => ?_))
      | (refine And.intro rfl ?_)
      | (refine And.intro (by omega) ?_)
      | (refine ⟨_, Or.inl ⟨⟨by omega, by omega⟩, rfl⟩, ?_⟩)
      | (refine And.intro (by simp only [lens_all, zs_len, U_len, sms_len, its_len, ints_len]; first | done | omega) ?_)
      | (refine And.intro (Nat.le_refl _) ?_)
      | fail
    · refine ⟨k + 1, ⟨(show k + 1 ≤ a.length by omega), take_more hk.2 (by rw [hxk, hyk, h])⟩, (show a.length - (k + 1) < a.length - k by omega), ⟨rfl, rfl, rfl, trivial⟩, trivial, rfl⟩
    · show SV.bool false = _
      rw [decide_eq_false]
      rintro rfl
      rw [hxk] at hyk; cases hyk; exact h rfl
  · have hkl : k = a.length := by omega
    repeat' (conv => whnf); first
      | ((refine Br.beq (by rfl) ?_))
      | ((refine Br.bne (by rfl) ?_))
      | ((refine And.intro (Or.inl (Nat.zero_le _)) ?_))
      | ((refine And.intro (show _ ≤ _ from Nat.le_of_ble_eq_true rfl) ?_))
      | ((refine And.intro (by intro y hy; simp at hy; subst hy; rfl) ?_))
      | (refine Br.tt ?_)
      | (refine Br.ff ?_)
      | (refine Br.dec (fun h => ?_) (fun h => ?_)) <;> try (exfalso; omega)
      | (refine Br.neg ?_)
      | (refine Br.mk (fun h => ?_) (fun h => ?_))
      | (refine And.intro rfl ?_)
      | (refine And.intro (by omega) ?_)
      | (refine ⟨_, Or.inl ⟨⟨by omega, by omega⟩, rfl⟩, ?_⟩)
      | (refine And.intro (by simp only [lens_all, zs_len, U_len, sms_len, its_len, ints_len]; first | done | omega) ?_)
      | (refine And.intro (Nat.le_refl _) ?_)
      | fail
    show SV.bool true = _
    rw [decide_eq_true]
    have := hk.2
    rwa [hkl, List.take_length, hlen, List.take_length] at this
end
section
open Go.RowKit
attribute [local irreducible] FS FO IT HS

def ir_fretworkref13_Sums : IR :=
(.seq (.reg (⟨(some 6), .bx (.t 1), none⟩ ::⟨(some 7), .bx (.t 2), none⟩ ::⟨(some 10), .mv (.c (.nils)), none⟩ ::⟨(some 11), .mv (.c (.int .i64 0)), none⟩ :: [])) (.seq (.reg (⟨(some 21), .ld 5 true (.t 6), none⟩ ::⟨(some 22), .call (.c (.fn 29 [])) [(.t 21)], none⟩ ::⟨none, .st 5 (.t 6) (.t 22), none⟩ :: [])) (.seq (.reg (⟨(some 23), .ld 3 true (.t 7), none⟩ ::⟨(some 24), .call (.c (.fn 30 [])) [(.t 23)], none⟩ ::⟨(some 12), .al [.int .i64 0, .nils], none⟩ ::⟨none, .st 2 (.t 12) (.t 24), none⟩ :: [])) (.seq (.seq (.reg (⟨(some 25), .mv (.t 0), none⟩ ::⟨(some 26), .call (.c (.fn 31 [])) [(.t 25)], none⟩ ::⟨(some 27), .un .not (.t 26), none⟩ :: [])) (.cond (.t 27) (.seq (.reg (⟨(some 10), .mv (.c (.nils)), none⟩ ::⟨(some 11), .mv (.c (.int .i64 8)), none⟩ :: [])) .ret) .skip)) (.seq (.seq (.reg (⟨(some 28), .fa 0 (.t 12), none⟩ ::⟨(some 29), .ld 1 false (.t 28), none⟩ ::⟨(some 30), .fa 1 (.t 6), none⟩ ::⟨(some 31), .ld 1 false (.t 30), none⟩ ::⟨(some 32), .bin .neq (.t 29) (.t 31), none⟩ :: [])) (.cond (.t 32) (.seq (.reg (⟨(some 10), .mv (.c (.nils)), none⟩ ::⟨(some 11), .mv (.c (.int .i64 4)), none⟩ :: [])) .ret) .skip)) (.seq (.reg (⟨(some 13), .mv (.c (.nils)), none⟩ :: [])) (.seq (.seq (.reg (⟨(some 14), .mv (.c (.int .i64 0)), none⟩ :: [])) (.block 0 (.loop (.seq (.seq (.reg (⟨(some 33), .mv (.t 14), none⟩ ::⟨(some 34), .fa 0 (.t 6), none⟩ ::⟨(some 35), .ld 1 false (.t 34), none⟩ ::⟨(some 36), .bin .lss (.t 33) (.t 35), none⟩ :: [])) (.cond (.t 36) .skip (.exit 0))) (.seq (.block 1 (.seq (.seq (.reg (⟨(some 39), .mv (.t 3), none⟩ ::⟨(some 40), .mv (.t 14), none⟩ ::⟨(some 41), .call (.c (.fn 32 [])) [(.t 39), (.t 40)], none⟩ ::⟨(some 42), .mv (.t 4), none⟩ ::⟨(some 43), .beq false (.t 41) (.t 42), none⟩ :: [])) (.cond (.t 43) (.exit 1) .skip)) (.seq (.reg (⟨(some 15), .al [.int .i64 0, .int .u64 0], none⟩ :: [])) (.seq (.reg (⟨(some 16), .mv (.c (.bool false)), none⟩ :: [])) (.seq (.seq (.reg (⟨(some 44), .fa 2 (.t 6), none⟩ ::⟨(some 45), .ld 1 false (.t 44), none⟩ ::⟨(some 46), .mv (.t 14), none⟩ ::⟨(some 47), .ia 1 (.t 45) (.t 46), none⟩ ::⟨(some 48), .ld 1 false (.t 47), none⟩ ::⟨(some 17), .mv (.t 48), none⟩ :: [])) (.block 2 (.loop (.seq (.seq (.reg (⟨(some 49), .mv (.t 17), none⟩ ::⟨(some 50), .fa 2 (.t 6), none⟩ ::⟨(some 51), .ld 1 false (.t 50), none⟩ ::⟨(some 52), .mv (.t 14), none⟩ ::⟨(some 53), .bin .add (.t 52) (.c (.int .i64 1)), none⟩ ::⟨(some 54), .ia 1 (.t 51) (.t 53), none⟩ ::⟨(some 55), .ld 1 false (.t 54), none⟩ ::⟨(some 56), .bin .lss (.t 49) (.t 55), none⟩ :: [])) (.cond (.t 56) .skip (.exit 2))) (.seq (.block 3 (.seq (.draw (⟨(some 60), .ld 2 true (.t 12), none⟩ ::⟨(some 61), .fa 3 (.t 6), none⟩ ::⟨(some 62), .ld 1 false (.t 61), none⟩ ::⟨(some 63), .mv (.t 17), none⟩ ::⟨(some 64), .ia 1 (.t 62) (.t 63), none⟩ ::⟨(some 65), .ld 1 false (.t 64), none⟩ ::⟨(some 66), .call (.c (.fn 22 [])) [(.t 60), (.t 65)], none⟩ ::⟨(some 59), .mv (.t 66), none⟩ ::⟨(some 67), .ex 0 (.t 59), none⟩ ::⟨(some 68), .ex 1 (.t 59), none⟩ ::⟨(some 18), .mv (.t 67), none⟩ :: []) (⟨(some 19), .mv (.t 68), none⟩ :: [])) (.seq (.seq (.reg (⟨(some 69), .mv (.t 19), none⟩ ::⟨(some 70), .un .not (.t 69), none⟩ :: [])) (.cond (.t 70) (.exit 3) .skip)) (.seq (.reg (⟨(some 71), .mv (.t 0), none⟩ ::⟨(some 72), .fa 4 (.t 6), none⟩ ::⟨(some 73), .ld 1 false (.t 72), none⟩ ::⟨(some 74), .mv (.t 17), none⟩ ::⟨(some 75), .ia 1 (.t 73) (.t 74), none⟩ ::⟨(some 76), .ld 1 false (.t 75), none⟩ ::⟨(some 77), .mv (.t 18), none⟩ ::⟨(some 78), .call (.c (.fn 33 [])) [(.t 71), (.t 76), (.t 77)], none⟩ ::⟨(some 20), .al [.int .i64 0, .int .u64 0], none⟩ ::⟨none, .st 2 (.t 20) (.t 78), none⟩ :: [])) (.seq (.seq (.reg (⟨(some 79), .mv (.t 16), none⟩ :: [])) (.cond (.t 79) (.reg (⟨(some 80), .mv (.t 0), none⟩ ::⟨(some 81), .ld 2 true (.t 15), none⟩ ::⟨(some 82), .ld 2 true (.t 20), none⟩ ::⟨(some 83), .call (.c (.fn 34 [])) [(.t 80), (.t 81), (.t 82)], none⟩ ::⟨none, .st 2 (.t 15) (.t 83), none⟩ :: [])) (.reg (⟨(some 84), .ld 2 true (.t 20), none⟩ ::⟨none, .st 2 (.t 15) (.t 84), none⟩ :: [])))) (.reg (⟨(some 16), .mv (.c (.bool true)), none⟩ :: []))))))) (.reg (⟨(some 57), .mv (.t 17), none⟩ ::⟨(some 58), .bin .add (.t 57) (.c (.int .i64 1)), none⟩ ::⟨(some 17), .mv (.t 58), none⟩ :: []))))))) (.seq (.reg (⟨(some 85), .mv (.t 16), none⟩ :: [])) (.cond (.t 85) (.reg (⟨(some 86), .mv (.t 13), none⟩ ::⟨(some 87), .mv (.t 14), none⟩ ::⟨(some 88), .ld 2 true (.t 15), none⟩ ::⟨(some 89), .bld [.int .i64 0, .int .i64 0, .int .u64 0] [(0, 1, (.t 87)), (1, 2, (.t 88))], none⟩ ::⟨(some 90), .bsl 1 3 [.int .i64 0, .int .i64 0, .int .u64 0] [(0, (.t 89))], none⟩ ::⟨(some 91), .ap 3 24 (.t 86) (.t 90), none⟩ ::⟨(some 13), .mv (.t 91), none⟩ :: [])) .skip))))))) (.reg (⟨(some 37), .mv (.t 14), none⟩ ::⟨(some 38), .bin .add (.t 37) (.c (.int .i64 1)), none⟩ ::⟨(some 14), .mv (.t 38), none⟩ :: []))))))) (.seq (.reg (⟨(some 92), .mv (.t 13), none⟩ ::⟨(some 10), .mv (.t 92), none⟩ ::⟨(some 11), .mv (.c (.int .i64 0)), none⟩ :: [])) .ret))))))))
theorem cd_fretworkref13_Sums : Code1 Try.prog 9 93 ir_fretworkref13_Sums [.t 10, .t 11] := ⟨Try.call9, _, _, Try.func9, rfl, by kernel_rfl, by kernel_rfl, by kernel_rfl, by kernel_rfl⟩

set_option maxHeartbeats 8000000 in
theorem fs_r13Sums (r : Int) (rows cols : Int) (st col val : List Int) (n : Int) (f : List Nat) (v : List Int) (g : List Nat) (o : Bool) (hval : Zb val) (hn : I64 n) (hw : Wd f) (hf : f.length ≤ 1000000) (hv : v.length ≤ 1000000) (hvb : Zb v) (hg : Wd g) (hgl : g.length ≤ 1000000) :
    FS Try.prog 9 [.int .i64 r, MX rows cols st col val, DV n f v, U g, .bool o] (SE (sumsR r (mS rows cols st col val) (dS n f v) g o)) := by
  refine fs_of_cvc mixed cd_fretworkref13_Sums (by simp) ?_
  have c1 := fs_r7Sure rows cols st col val
  have c1b := fs_r10Back n f v hn hw hf hv
  have hM := okM_mS rows cols st col val
  have hD := okD_dS n v hw
  have hval' := zb_mS (rows := rows) (cols := cols) (st := st) (col := col) hval
  have hvb' := zb_dS (n := n) (f := f) hvb
  generalize mS rows cols st col val = m at *
  generalize hdd : dS n f v = d at *
  obtain ⟨mr, mc, ms, mk, mv⟩ := m
  obtain ⟨dn, df, dv⟩ := d
  have c1' : FS Try.prog 29 [MX rows cols st col val] (MX mr mc ms mk mv) := c1
  have c1b' : FS Try.prog 30 [DV n f v] (VC dn (bkL df dv)) := c1b
  have hM : OkM mr mc ms mk mv := hM
  have hD : OkD dn df dv := hD
  have hval' : Zb mv := hval'
  have hvb' : Zb dv := hvb'
  have hB := okV_bkL hD
  have hgB : ∀ p, FS Try.prog 22 [VC dn (bkL df dv), .int .i64 p] (.tup [.int .i64 ((dG df dv p).getD 0), .bool (dG df dv p).isSome]) := fun p => by
    have := fs_r9Get dn (bkL df dv) p (by have := hB.le; omega)
    rwa [hB.sl, gt_bkL hD.wd] at this
  have hr0 := hM.r0
  have hr1 := hM.r1
  have hsl := hM.sl
  have hvl := hM.vl
  have hnl := hM.nl
  have hc1 := hM.c1
  have hzs := zs_len ms
  have hzc := zs_len mk
  have hzv := zs_len mv
  have c2 := fs_r2Is r
  obtain ⟨t, ht⟩ : ∃ t, sumsR r (mr, mc, ms, mk, mv) (dn, df, dv) g o = t := ⟨_, rfl⟩
  rw [ht]
  unfold sumsR at ht
  simp only at ht
  generalize bkL df dv = B at *
  cases hR : isR r with
  | false =>
    rw [hR] at ht c2
    rw [if_neg (by simp)] at ht
    subst ht
    repeat' (conv => whnf); first
      | ((refine Or.inl ⟨by rfl, _, c1', ?_⟩))
      | ((refine Or.inl ⟨by rfl, _, c1b', ?_⟩))
      | ((refine Or.inl ⟨by rfl, _, c2, ?_⟩))
      | ((refine Br.beq (by rfl) ?_))
      | ((refine Br.bne (by rfl) ?_))
      | ((refine And.intro (Or.inl (Nat.zero_le _)) ?_))
      | ((refine And.intro (show _ ≤ _ from Nat.le_of_ble_eq_true rfl) ?_))
      | ((refine And.intro (by intro y hy; simp at hy; subst hy; rfl) ?_))
      | (refine Br.tt ?_)
      | (refine Br.ff ?_)
      | (refine Br.dec (fun h => ?_) (fun h => ?_)) <;> try (exfalso; omega)
      | (refine Br.neg ?_)
      | (refine Br.mk (fun h => ?_) (fun h => ?_))
      | (refine And.intro rfl ?_)
      | (refine And.intro (by omega) ?_)
      | (refine ⟨_, Or.inl ⟨⟨by omega, by omega⟩, rfl⟩, ?_⟩)
      | (refine And.intro (by simp only [lens_all, zs_len, U_len, sms_len, its_len, ints_len]; first | done | omega) ?_)
      | (refine And.intro (Nat.le_refl _) ?_)
      | fail
    all_goals first | exact rfl | exact trivial | exact ⟨rfl, trivial⟩ | exact ⟨rfl, rfl, trivial⟩
  | true =>
    rw [hR] at ht c2
    rw [if_pos rfl] at ht
    by_cases hnc : dn = mc
    · rw [if_pos hnc] at ht
      obtain ⟨R, hRR⟩ : ∃ R : Nat → Option Int, R = fun i => rowO r (dG df dv) (rowL ms mk mv i) := ⟨_, rfl⟩
      rw [← hRR] at ht
      repeat' (conv => whnf); first
        | ((refine Or.inl ⟨by rfl, _, c1', ?_⟩))
        | ((refine Or.inl ⟨by rfl, _, c1b', ?_⟩))
        | ((refine Or.inl ⟨by rfl, _, c2, ?_⟩))
        | ((refine Br.beq (by rfl) ?_))
        | ((refine Br.bne (by rfl) ?_))
        | ((refine And.intro (Or.inl (Nat.zero_le _)) ?_))
        | ((refine And.intro (show _ ≤ _ from Nat.le_of_ble_eq_true rfl) ?_))
        | ((refine And.intro (by intro y hy; simp at hy; subst hy; rfl) ?_))
        | (refine Br.tt ?_)
        | (refine Br.ff ?_)
        | (refine Br.dec (fun h => ?_) (fun h => ?_)) <;> try (exfalso; omega)
        | (refine Br.neg ?_)
        | (refine Br.mk (fun h => ?_) (fun h => ?_))
        | (refine And.intro rfl ?_)
        | (refine And.intro (by omega) ?_)
        | (refine ⟨_, Or.inl ⟨⟨by omega, by omega⟩, rfl⟩, ?_⟩)
        | (refine And.intro (by simp only [lens_all, zs_len, U_len, sms_len, its_len, ints_len]; first | done | omega) ?_)
        | (refine And.intro (Nat.le_refl _) ?_)
        | fail
      obtain ⟨S, hS⟩ : ∃ S : Nat → List (Int × Int), ∀ k, S k = sumsL R (askL (k : Int) g o) := ⟨_, fun _ => rfl⟩
      refine ⟨Nat × List (Int × Int), fun ⟨k, s⟩ => (k : Int) ≤ mr ∧ s = S k, fun ⟨k, s⟩ => [(0, .int .i64 r), (3, U g), (4, .bool o), (6, .ptr 0 0 0 0), (12, .ptr 2 0 0 0), (13, .osl 3 3 0 s.length), (14, .int .i64 (k : Int))], fun ⟨_, s⟩ => [.vars [.int .i64 mr, .int .i64 mc, Z ms, Z mk, Z mv], .dead, .vars [.int .i64 dn, IL B], .arr 3 (sms s)], fun _ => none, fun ⟨k, _⟩ => mr.toNat - k,
        ⟨(0, []), ⟨hr0, (hS 0).symm⟩, ⟨rfl, rfl, rfl, rfl, rfl, ⟨Nat.le_refl _, rfl, rfl⟩, rfl, trivial⟩, ⟨⟨rfl, rfl, rfl, rfl, rfl, trivial⟩, trivial, ⟨rfl, rfl, trivial⟩, rfl, trivial⟩, rfl⟩, fun ⟨k, s⟩ hk => ?_⟩
      obtain ⟨hk, hs⟩ := hk
      have hslen : s.length ≤ k := by
        rw [hs, hS]
        have h1 := sumsL_le R (askL (k : Int) g o)
        have h2 := askL_len (k : Int) g o
        omega
      have hsms := sms_len s
      by_cases hkr : (k : Int) < mr
      · have c3 := fs_rHas g hg hgl (k : Int) (by omega)
        obtain ⟨b, hb⟩ : ∃ b, hasI g (k : Int) = b := ⟨_, rfl⟩
        rw [hb] at c3
        have hak := askK g o k
        rw [hb] at hak
        by_cases hbo : b = o
        · have hS1 : S (k + 1) = s := by
            rw [hs, hS, hS, show ((k + 1 : Nat) : Int) = (k : Int) + 1 by omega, hak, if_neg (by rw [hbo]; simp), List.append_nil]
          subst hbo
          cases b
          all_goals
            repeat' (conv => whnf); first
              | ((refine Or.inl ⟨by rfl, _, c3, ?_⟩))
              | ((refine Br.beq (by rfl) ?_))
              | ((refine Br.bne (by rfl) ?_))
              | ((refine And.intro (Or.inl (Nat.zero_le _)) ?_))
              | ((refine And.intro (show _ ≤ _ from Nat.le_of_ble_eq_true rfl) ?_))
              | ((refine And.intro (by intro y hy; simp at hy; subst hy; rfl) ?_))
              | (refine Br.tt ?_)
              | (refine Br.ff ?_)
              | (refine Br.dec (fun h => ?_) (fun h => ?_)) <;> try (exfalso; omega)
              | (refine Br.neg ?_)
              | (refine Br.mk (fun h => ?_) (fun h => ?_))
              | (refine And.intro rfl ?_)
              | (refine And.intro (by omega) ?_)
              | (refine ⟨_, Or.inl ⟨⟨by omega, by omega⟩, rfl⟩, ?_⟩)
              | (refine And.intro (by simp only [lens_all, zs_len, U_len, sms_len, its_len, ints_len]; first | done | omega) ?_)
              | (refine And.intro (Nat.le_refl _) ?_)
              | fail
            exact ⟨(k + 1, s), ⟨by omega, hS1.symm⟩, (show mr.toNat - (k + 1) < mr.toNat - k by omega), ⟨rfl, rfl, rfl, rfl, rfl, rfl, rfl, trivial⟩, ⟨⟨rfl, rfl, rfl, rfl, rfl, trivial⟩, trivial, ⟨rfl, rfl, trivial⟩, rfl, trivial⟩, rfl⟩
        · have hbo' : (b != o) = true := by simpa using hbo
          have hS1 : S (k + 1) = s ++ ((R k).map fun z => ((k : Int), z)).toList := by
            rw [hs, hS, hS, show ((k + 1 : Nat) : Int) = (k : Int) + 1 by omega, hak, if_pos hbo']
            unfold sumsL
            rw [List.filterMap_append]
            cases hr : R k <;> simp [hr]
          obtain ⟨a, ha⟩ : ∃ a, ms.getD k 0 = a := ⟨_, rfl⟩
          obtain ⟨e, he⟩ : ∃ e, ms.getD (k + 1) 0 = e := ⟨_, rfl⟩
          have hat := hM.at hkr
          rw [ha, he] at hat
          obtain ⟨h1, h2, h3⟩ := hat
          have hll : (rowL ms mk mv k).length = (e - a).toNat := by rw [rowL_len, ha, he]
          obtain ⟨O, hO⟩ : ∃ O : Nat → Option Int, ∀ j, O j = rowO r (dG df dv) ((rowL ms mk mv k).take j) := ⟨_, fun _ => rfl⟩
          have hRk : R k = rowO r (dG df dv) (rowL ms mk mv k) := by rw [hRR]
          cases b <;> cases o <;> first | exact absurd rfl hbo | skip
          all_goals
            repeat' (conv => whnf); first
              | ((refine Or.inl ⟨by rfl, _, c3, ?_⟩))
              | ((refine zs_go (i := k) (by omega) ha ?_))
              | ((refine Br.beq (by rfl) ?_))
              | ((refine Br.bne (by rfl) ?_))
              | ((refine And.intro (Or.inl (Nat.zero_le _)) ?_))
              | ((refine And.intro (show _ ≤ _ from Nat.le_of_ble_eq_true rfl) ?_))
              | ((refine And.intro (by intro y hy; simp at hy; subst hy; rfl) ?_))
              | (refine Br.tt ?_)
              | (refine Br.ff ?_)
              | (refine Br.dec (fun h => ?_) (fun h => ?_)) <;> try (exfalso; omega)
              | (refine Br.neg ?_)
              | (refine Br.mk (fun h => ?_) (fun h => ?_))
              | (refine And.intro rfl ?_)
              | (refine And.intro (by omega) ?_)
              | (refine ⟨_, Or.inl ⟨⟨by omega, by omega⟩, rfl⟩, ?_⟩)
              | (refine And.intro (by simp only [lens_all, zs_len, U_len, sms_len, its_len, ints_len]; first | done | omega) ?_)
              | (refine And.intro (Nat.le_refl _) ?_)
              | fail
            refine ⟨Nat × Option Int, fun ⟨j, q⟩ => a + (j : Int) ≤ e ∧ q = O j, fun ⟨j, q⟩ => [(0, .int .i64 r), (3, U g), (4, .bool _), (6, .ptr 0 0 0 0), (12, .ptr 2 0 0 0), (13, .osl 3 3 0 s.length), (14, .int .i64 (k : Int)), (15, .ptr 4 0 0 0), (16, .bool q.isSome), (17, .int .i64 (a + (j : Int)))], fun ⟨_, q⟩ => [.vars [.int .i64 mr, .int .i64 mc, Z ms, Z mk, Z mv], .dead, .vars [.int .i64 dn, IL B], .arr 3 (sms s), .vars [.int .i64 (hi (q.getD 0)), .int .u64 (lo (q.getD 0))]], fun _ => none, fun ⟨j, _⟩ => (e - a).toNat - j,
              ⟨(0, none), ⟨by omega, (hO 0).symm⟩, ⟨rfl, rfl, rfl, rfl, rfl, rfl, rfl, rfl, rfl, ?_, trivial⟩, ⟨⟨rfl, rfl, rfl, rfl, rfl, trivial⟩, trivial, ⟨rfl, rfl, trivial⟩, rfl, ⟨?_, ?_, trivial⟩, trivial⟩, rfl⟩, fun ⟨j, q⟩ hj => ?_⟩
            · exact congrArg (SV.int .i64) (show a = a + ((0 : Nat) : Int) by omega)
            · show SV.int .i64 0 = SV.int .i64 (hi 0); rw [zero_hi]
            · show SV.int .u64 0 = SV.int .u64 (lo 0); rw [zero_lo]
            obtain ⟨hj, hq⟩ := hj
            by_cases hje : a + (j : Int) < e
            · obtain ⟨p, hp⟩ : ∃ p, mk.getD (a.toNat + j) 0 = p := ⟨_, rfl⟩
              obtain ⟨x, hx⟩ : ∃ x, mv.getD (a.toNat + j) 0 = x := ⟨_, rfl⟩
              have hxI : I64 x := by rw [← hx]; exact hval'.at _
              have hst : O (j + 1) = rowF r (dG df dv) q (p, x) := by
                rw [hq, hO, hO]
                refine rowO_more ?_
                rw [rowL_at (by rw [ha, he]; omega), ha, hp, hx]
              have hqw : ∀ z, q = some z → W128 z := by
                rw [hq, hO]
                exact rowO_w (dG_I hvb') _ (fun x hx => mem_rowL hval' (List.mem_of_mem_take hx)) none (fun s h => by cases h)
              have c4 := hgB p
              have hgI := dG_I (f := df) hvb' p
              unfold rowF at hst
              simp only at hst
              generalize dG df dv p = y at *
              cases y with
              | none =>
                have c4' : FS Try.prog 22 [VC dn B, .int .i64 p] (.tup [.int .i64 0, .bool false]) := c4
                repeat' (conv => whnf); first
                  | ((refine zs_go (i := k + 1) (by omega) he ?_))
                  | ((refine zs_go (i := a.toNat + j) (by omega) hp ?_))
                  | ((refine Or.inl ⟨by rfl, _, c4', ?_⟩))
                  | ((refine Br.beq (by rfl) ?_))
                  | ((refine Br.bne (by rfl) ?_))
                  | ((refine And.intro (Or.inl (Nat.zero_le _)) ?_))
                  | ((refine And.intro (show _ ≤ _ from Nat.le_of_ble_eq_true rfl) ?_))
                  | ((refine And.intro (by intro y hy; simp at hy; subst hy; rfl) ?_))
                  | (refine Br.tt ?_)
                  | (refine Br.ff ?_)
                  | (refine Br.dec (fun h => ?_) (fun h => ?_)) <;> try (exfalso; omega)
                  | (refine Br.neg ?_)
                  | (refine Br.mk (fun h => ?_) (fun h => ?_))
                  | (refine And.intro rfl ?_)
                  | (refine And.intro (by omega) ?_)
                  | (refine ⟨_, Or.inl ⟨⟨by omega, by omega⟩, rfl⟩, ?_⟩)
                  | (refine And.intro (by simp only [lens_all, zs_len, U_len, sms_len, its_len, ints_len]; first | done | omega) ?_)
                  | (refine And.intro (Nat.le_refl _) ?_)
                  | fail
                refine ⟨(j + 1, q), ⟨by omega, hst.symm⟩, (show (e - a).toNat - (j + 1) < (e - a).toNat - j by omega), ⟨rfl, rfl, rfl, rfl, rfl, rfl, rfl, rfl, rfl, ?_, trivial⟩, ⟨⟨rfl, rfl, rfl, rfl, rfl, trivial⟩, trivial, ⟨rfl, rfl, trivial⟩, rfl, ⟨rfl, rfl, trivial⟩, trivial⟩, rfl⟩
                exact congrArg (SV.int .i64) (show a + (j : Int) + 1 = a + ((j + 1 : Nat) : Int) by omega)
              | some z =>
                have hzI := hgI z rfl
                have c4' : FS Try.prog 22 [VC dn B, .int .i64 p] (.tup [.int .i64 z, .bool true]) := c4
                have c5 := fs_r2Mul r x z hxI hzI
                cases q with
                | none =>
                  repeat' (conv => whnf); first
                    | ((refine zs_go (i := k + 1) (by omega) he ?_))
                    | ((refine zs_go (i := a.toNat + j) (by omega) hp ?_))
                    | ((refine zs_go (i := a.toNat + j) (by omega) hx ?_))
                    | ((refine Or.inl ⟨by rfl, _, c4', ?_⟩))
                    | ((refine Or.inl ⟨by rfl, _, c5, ?_⟩))
                    | ((refine Br.beq (by rfl) ?_))
                    | ((refine Br.bne (by rfl) ?_))
                    | ((refine And.intro (Or.inl (Nat.zero_le _)) ?_))
                    | ((refine And.intro (show _ ≤ _ from Nat.le_of_ble_eq_true rfl) ?_))
                    | ((refine And.intro (by intro y hy; simp at hy; subst hy; rfl) ?_))
                    | (refine Br.tt ?_)
                    | (refine Br.ff ?_)
                    | (refine Br.dec (fun h => ?_) (fun h => ?_)) <;> try (exfalso; omega)
                    | (refine Br.neg ?_)
                    | (refine Br.mk (fun h => ?_) (fun h => ?_))
                    | (refine And.intro rfl ?_)
                    | (refine And.intro (by omega) ?_)
                    | (refine ⟨_, Or.inl ⟨⟨by omega, by omega⟩, rfl⟩, ?_⟩)
                    | (refine And.intro (by simp only [lens_all, zs_len, U_len, sms_len, its_len, ints_len]; first | done | omega) ?_)
                    | (refine And.intro (Nat.le_refl _) ?_)
                    | fail
                  refine ⟨(j + 1, some (rMul r x z)), ⟨by omega, hst.symm⟩, (show (e - a).toNat - (j + 1) < (e - a).toNat - j by omega), ⟨rfl, rfl, rfl, rfl, rfl, rfl, rfl, rfl, rfl, ?_, trivial⟩, ⟨⟨rfl, rfl, rfl, rfl, rfl, trivial⟩, trivial, ⟨rfl, rfl, trivial⟩, rfl, ⟨rfl, rfl, trivial⟩, ⟨Nat.le_of_ble_eq_true rfl, rfl, rfl⟩⟩, rfl⟩
                  exact congrArg (SV.int .i64) (show a + (j : Int) + 1 = a + ((j + 1 : Nat) : Int) by omega)
                | some u =>
                  have c6 := fs_r2Add r u (rMul r x z) (hqw u rfl) (rMul_w hxI hzI)
                  repeat' (conv => whnf); first
                    | ((refine zs_go (i := k + 1) (by omega) he ?_))
                    | ((refine zs_go (i := a.toNat + j) (by omega) hp ?_))
                    | ((refine zs_go (i := a.toNat + j) (by omega) hx ?_))
                    | ((refine Or.inl ⟨by rfl, _, c4', ?_⟩))
                    | ((refine Or.inl ⟨by rfl, _, c5, ?_⟩))
                    | ((refine Or.inl ⟨by rfl, _, c6, ?_⟩))
                    | ((refine Br.beq (by rfl) ?_))
                    | ((refine Br.bne (by rfl) ?_))
                    | ((refine And.intro (Or.inl (Nat.zero_le _)) ?_))
                    | ((refine And.intro (show _ ≤ _ from Nat.le_of_ble_eq_true rfl) ?_))
                    | ((refine And.intro (by intro y hy; simp at hy; subst hy; rfl) ?_))
                    | (refine Br.tt ?_)
                    | (refine Br.ff ?_)
                    | (refine Br.dec (fun h => ?_) (fun h => ?_)) <;> try (exfalso; omega)
                    | (refine Br.neg ?_)
                    | (refine Br.mk (fun h => ?_) (fun h => ?_))
                    | (refine And.intro rfl ?_)
                    | (refine And.intro (by omega) ?_)
                    | (refine ⟨_, Or.inl ⟨⟨by omega, by omega⟩, rfl⟩, ?_⟩)
                    | (refine And.intro (by simp only [lens_all, zs_len, U_len, sms_len, its_len, ints_len]; first | done | omega) ?_)
                    | (refine And.intro (Nat.le_refl _) ?_)
                    | fail
                  refine ⟨(j + 1, some (rAdd r u (rMul r x z))), ⟨by omega, hst.symm⟩, (show (e - a).toNat - (j + 1) < (e - a).toNat - j by omega), ⟨rfl, rfl, rfl, rfl, rfl, rfl, rfl, rfl, rfl, ?_, trivial⟩, ⟨⟨rfl, rfl, rfl, rfl, rfl, trivial⟩, trivial, ⟨rfl, rfl, trivial⟩, rfl, ⟨rfl, rfl, trivial⟩, ⟨Nat.le_of_ble_eq_true rfl, rfl, rfl⟩⟩, rfl⟩
                  exact congrArg (SV.int .i64) (show a + (j : Int) + 1 = a + ((j + 1 : Nat) : Int) by omega)
            · have e1 : R k = q := by
                rw [hq, hO, hRk, List.take_of_length_le (show (rowL ms mk mv k).length ≤ j by omega)]
              rw [e1] at hS1
              cases q with
              | none =>
                repeat' (conv => whnf); first
                  | ((refine zs_go (i := k + 1) (by omega) he ?_))
                  | ((refine Br.beq (by rfl) ?_))
                  | ((refine Br.bne (by rfl) ?_))
                  | ((refine And.intro (Or.inl (Nat.zero_le _)) ?_))
                  | ((refine And.intro (show _ ≤ _ from Nat.le_of_ble_eq_true rfl) ?_))
                  | ((refine And.intro (by intro y hy; simp at hy; subst hy; rfl) ?_))
                  | (refine Br.tt ?_)
                  | (refine Br.ff ?_)
                  | (refine Br.dec (fun h => ?_) (fun h => ?_)) <;> try (exfalso; omega)
                  | (refine Br.neg ?_)
                  | (refine Br.mk (fun h => ?_) (fun h => ?_))
                  | (refine And.intro rfl ?_)
                  | (refine And.intro (by omega) ?_)
                  | (refine ⟨_, Or.inl ⟨⟨by omega, by omega⟩, rfl⟩, ?_⟩)
                  | (refine And.intro (by simp only [lens_all, zs_len, U_len, sms_len, its_len, ints_len]; first | done | omega) ?_)
                  | (refine And.intro (Nat.le_refl _) ?_)
                  | fail
                refine ⟨(k + 1, s), ⟨by omega, ?_⟩, (show mr.toNat - (k + 1) < mr.toNat - k by omega), ⟨rfl, rfl, rfl, rfl, rfl, rfl, rfl, trivial⟩, ⟨⟨rfl, rfl, rfl, rfl, rfl, trivial⟩, trivial, ⟨rfl, rfl, trivial⟩, rfl, ⟨Nat.le_of_ble_eq_true rfl, rfl, rfl⟩⟩, rfl⟩
                rw [hS1]; simp
              | some u =>
                repeat' (conv => whnf); first
                  | ((refine zs_go (i := k + 1) (by omega) he ?_))
                  | ((refine Br.beq (by rfl) ?_))
                  | ((refine Br.bne (by rfl) ?_))
                  | ((refine And.intro (Or.inl (Nat.zero_le _)) ?_))
                  | ((refine And.intro (show _ ≤ _ from Nat.le_of_ble_eq_true rfl) ?_))
                  | ((refine And.intro (by intro y hy; simp at hy; subst hy; rfl) ?_))
                  | (refine Br.tt ?_)
                  | (refine Br.ff ?_)
                  | (refine Br.dec (fun h => ?_) (fun h => ?_)) <;> try (exfalso; omega)
                  | (refine Br.neg ?_)
                  | (refine Br.mk (fun h => ?_) (fun h => ?_))
                  | (refine And.intro rfl ?_)
                  | (refine And.intro (by omega) ?_)
                  | (refine ⟨_, Or.inl ⟨⟨by omega, by omega⟩, rfl⟩, ?_⟩)
                  | (refine And.intro (by simp only [lens_all]; first | done | omega) ?_)
                  | (refine And.intro (Nat.le_refl _) ?_)
                  | fail
                refine ⟨(k + 1, s ++ [((k : Int), u)]), ⟨by omega, ?_⟩, (show mr.toNat - (k + 1) < mr.toNat - k by omega), ⟨rfl, rfl, rfl, rfl, rfl, ?_, rfl, trivial⟩, ⟨⟨rfl, rfl, rfl, rfl, rfl, trivial⟩, trivial, ⟨rfl, rfl, trivial⟩, ?_, ⟨Nat.le_of_ble_eq_true rfl, rfl, rfl⟩⟩, rfl⟩
                · rw [hS1]; simp
                · exact congrArg (SV.osl 3 3 0) (by simp)
                · exact congrArg (Blk.arr 3) (by rw [sms_append]; rfl)
      · obtain rfl : mr = (k : Int) := by omega
        rw [← hS, ← hs] at ht
        subst ht
        repeat' (conv => whnf); first
          | ((refine Br.beq (by rfl) ?_))
          | ((refine Br.bne (by rfl) ?_))
          | ((refine And.intro (Or.inl (Nat.zero_le _)) ?_))
          | ((refine And.intro (show _ ≤ _ from Nat.le_of_ble_eq_true rfl) ?_))
          | ((refine And.intro (by intro y hy; simp at hy; subst hy; rfl) ?_))
          | (refine Br.tt ?_)
          | (refine Br.ff ?_)
          | (refine Br.dec (fun h => ?_) (fun h => ?_)) <;> try (exfalso; omega)
          | (refine Br.neg ?_)
          | (refine Br.mk (fun h => ?_) (fun h => ?_))
          | (refine And.intro rfl ?_)
          | (refine And.intro (by omega) ?_)
          | (refine ⟨_, Or.inl ⟨⟨by omega, by omega⟩, rfl⟩, ?_⟩)
          | (refine And.intro (by simp only [lens_all, zs_len, U_len, sms_len, its_len, ints_len]; first | done | omega) ?_)
          | (refine And.intro (Nat.le_refl _) ?_)
          | fail
        conv => whnf
        rw [frz_sms]
        exact rfl
    · rw [if_neg hnc] at ht
      subst ht
      repeat' (conv => whnf); first
        | ((refine Or.inl ⟨by rfl, _, c1', ?_⟩))
        | ((refine Or.inl ⟨by rfl, _, c1b', ?_⟩))
        | ((refine Or.inl ⟨by rfl, _, c2, ?_⟩))
        | ((refine Br.beq (by rfl) ?_))
        | ((refine Br.bne (by rfl) ?_))
        | ((refine And.intro (Or.inl (Nat.zero_le _)) ?_))
        | ((refine And.intro (show _ ≤ _ from Nat.le_of_ble_eq_true rfl) ?_))
        | ((refine And.intro (by intro y hy; simp at hy; subst hy; rfl) ?_))
        | (refine Br.tt ?_)
        | (refine Br.ff ?_)
        | (refine Br.dec (fun h => ?_) (fun h => ?_)) <;> try (exfalso; omega)
        | (refine Br.neg ?_)
        | (refine Br.mk (fun h => ?_) (fun h => ?_))
        | (refine And.intro rfl ?_)
        | (refine And.intro (by omega) ?_)
        | (refine ⟨_, Or.inl ⟨⟨by omega, by omega⟩, rfl⟩, ?_⟩)
        | (refine And.intro (by simp only [lens_all, zs_len, U_len, sms_len, its_len, ints_len]; first | done | omega) ?_)
        | (refine And.intro (Nat.le_refl _) ?_)
        | fail
      all_goals first | exact rfl | exact trivial | exact ⟨rfl, trivial⟩ | exact ⟨rfl, rfl, trivial⟩
end
end Go.Proofs.Ytlbmjnammgffiaa
