/- Numbers cut in two ways at once, in plain words. Numbers cut in two ways at once: the document's function. Lists of segments alike. -/
import Derived.Test.YtjaakpigkoakkaaG1
import Derived.Test.YtjaakpigkoakkaaS5
namespace Go.Proofs.Ytjaakpigkoakkaa
section
open Go.RowKit
attribute [local irreducible] FS FO IT HS

/-- Each place that is more than the last one, once. -/
def ysL : Int → List Int → List Int
  | _, [] => []
  | z, a :: l => if z < a then a :: ysL a l else ysL a l
theorem ysL_spec : ∀ (l : List Int) (z : Int), l.Pairwise (fun x y => x ≤ y) → (∀ x ∈ l, z ≤ x) → (ysL z l).Pairwise (fun x y => x < y) ∧ ∀ x, x ∈ ysL z l ↔ x ∈ l ∧ z < x
  | [], z, _, _ => ⟨.nil, fun x => by simp [ysL]⟩
  | a :: l, z, hp, hz => by
    have ha := List.pairwise_cons.1 hp
    obtain ⟨h1, h2⟩ := ysL_spec l a ha.2 ha.1
    have hza := hz a (by simp)
    unfold ysL
    by_cases h : z < a
    · rw [if_pos h]
      refine ⟨List.pairwise_cons.2 ⟨fun x hx => ((h2 x).1 hx).2, h1⟩, fun x => ?_⟩
      rw [List.mem_cons, h2, List.mem_cons]
      constructor
      · rintro (rfl | ⟨h3, h4⟩)
        · exact ⟨.inl rfl, h⟩
        · exact ⟨.inr h3, by omega⟩
      · rintro ⟨rfl | h3, h4⟩
        · exact .inl rfl
        · have := ha.1 x h3
          rcases Int.lt_or_le a x with h5 | h5
          · exact .inr ⟨h3, h5⟩
          · exact .inl (by omega)
    · rw [if_neg h]
      refine ⟨h1, fun x => ?_⟩
      rw [h2, List.mem_cons]
      constructor
      · rintro ⟨h3, h4⟩; exact ⟨.inr h3, by omega⟩
      · rintro ⟨rfl | h3, h4⟩
        · exact absurd h4 h
        · exact ⟨h3, by omega⟩

theorem of_const {n k a x : Int} (hm : mayB n k = true) (h0 : 0 ≤ a) (h1 : a ≤ x) (h2 : x < n) (hno : ∀ i, 0 ≤ i → i < k → ¬ (a < lowI n k (i + 1) ∧ lowI n k (i + 1) ≤ x)) : ofI n k x = ofI n k a := by
  obtain ⟨q0, q1, q2, q3⟩ := ofI_spec hm h0 (show a < n by omega)
  have := hno _ q0 q1
  exact ofI_eq hm q0 q1 (by omega) (by omega)
theorem of_chg {n k a x i : Int} (hm : mayB n k = true) (h0 : 0 ≤ a) (h1 : a < x) (h2 : x < n) (he : lowI n k (i + 1) = x) : ofI n k a ≠ ofI n k x := by
  intro e
  obtain ⟨q0, q1, q2, q3⟩ := ofI_spec hm h0 (show a < n by omega)
  obtain ⟨p0, p1, p2, p3⟩ := ofI_spec hm (show 0 ≤ x by omega) h2
  rw [e] at q2
  rcases Int.lt_or_le i (ofI n k x) with h | h
  · have := low_mono hm (show i + 1 ≤ ofI n k x by omega); omega
  · have := low_mono hm (show ofI n k x + 1 ≤ i + 1 by omega); omega

abbrev Sg := Int × Int × Int × Int
/-- The document's segments of the first m numbers. -/
def refS (n r c : Int) : Nat → List Sg
  | 0 => []
  | m + 1 => match (refS n r c m).getLast? with
    | some s => if s.2.2.1 = ofI n r m ∧ s.2.2.2 = ofI n c m then (refS n r c m).dropLast ++ [(s.1, (m : Int) + 1, s.2.2.1, s.2.2.2)] else refS n r c m ++ [((m : Int), (m : Int) + 1, ofI n r m, ofI n c m)]
    | none => refS n r c m ++ [((m : Int), (m : Int) + 1, ofI n r m, ofI n c m)]
/-- The program's: from one place to the next one. -/
def segS (n r c : Int) : Int → List Int → List Sg
  | _, [] => []
  | z, a :: l => (z, a, ofI n r z, ofI n c z) :: segS n r c a l

/-- A segment grows while nothing changes. -/
theorem refS_run {n r c : Int} {f : Nat} {X : List Sg} (hX : refS n r c f = X) (hl : ∀ s, X.getLast? = some s → ¬ (s.2.2.1 = ofI n r f ∧ s.2.2.2 = ofI n c f)) {t : Nat} (hc : ∀ x : Nat, f ≤ x → x < t → ofI n r x = ofI n r f ∧ ofI n c x = ofI n c f) :
    ∀ d : Nat, f + (d + 1) ≤ t → refS n r c (f + (d + 1)) = X ++ [((f : Int), ((f + (d + 1) : Nat) : Int), ofI n r f, ofI n c f)]
  | 0, _ => by
    show refS n r c (f + 1) = _
    unfold refS
    rw [hX]
    cases hg : X.getLast? with
    | none => rfl
    | some s => simp only []; rw [if_neg (hl s hg)]; rfl
  | d + 1, hd => by
    have ih := refS_run hX hl hc d (by omega)
    show refS n r c ((f + (d + 1)) + 1) = _
    obtain ⟨e1, e2⟩ := hc (f + (d + 1)) (by omega) (by omega)
    unfold refS
    rw [ih, List.getLast?_append]
    simp only [List.getLast?_singleton, Option.some_or]
    rw [if_pos ⟨e1.symm, e2.symm⟩, List.dropLast_concat]
    rfl

def isCut (n r c x : Int) : Prop := (∃ i, 0 ≤ i ∧ i < r ∧ lowI n r (i + 1) = x) ∨ ∃ j, 0 ≤ j ∧ j < c ∧ lowI n c (j + 1) = x

theorem seg_ref {n r c : Int} (hr : mayB n r = true) (hc : mayB n c = true) : ∀ (l : List Int) (f : Nat) (X : List Sg), (f : Int) ≤ n → refS n r c f = X → (∀ s, X.getLast? = some s → (f : Int) < n → ¬ (s.2.2.1 = ofI n r f ∧ s.2.2.2 = ofI n c f)) → l.Pairwise (fun x y => x < y) → (∀ x, x ∈ l ↔ isCut n r c x ∧ (f : Int) < x) → refS n r c n.toNat = X ++ segS n r c f l
  | [], f, X, hf, hX, _, _, hm => by
    obtain ⟨_, _, h2, h3⟩ := mayB_iff.1 hr
    have : ¬ (f : Int) < n := fun h => by
      have := (hm n).2 ⟨.inl ⟨r - 1, by omega, by omega, by rw [show r - 1 + 1 = r by omega]; exact low_big hr (Int.le_refl _)⟩, h⟩
      cases this
    rw [show n.toNat = f by omega, hX, segS, List.append_nil]
  | a :: l, f, X, hf, hX, hl, hp, hm => by
    have ha := List.pairwise_cons.1 hp
    obtain ⟨hca, hfa⟩ := (hm a).1 (by simp)
    have han : a ≤ n := by
      rcases hca with ⟨i, h0, h1, rfl⟩ | ⟨i, h0, h1, rfl⟩
      · have := low_mono hr (show i + 1 ≤ r by omega); rwa [low_big hr (Int.le_refl _)] at this
      · have := low_mono hc (show i + 1 ≤ c by omega); rwa [low_big hc (Int.le_refl _)] at this
    obtain ⟨b, rfl⟩ : ∃ b : Nat, a = b := ⟨a.toNat, by omega⟩
    -- nothing is cut between
    have hno : ∀ x, isCut n r c x → (f : Int) < x → (b : Int) ≤ x := fun x hx hfx => by
      have := (hm x).2 ⟨hx, hfx⟩
      rcases List.mem_cons.1 this with rfl | h
      · exact Int.le_refl _
      · have := ha.1 x h; omega
    have hrun := refS_run hX (fun s hs => hl s hs (by omega)) (t := b) (fun x h1 h2 =>
      ⟨of_const hr (by omega) (by omega) (by omega) fun i i0 i1 ⟨g1, g2⟩ => by have := hno _ (.inl ⟨i, i0, i1, rfl⟩) g1; omega,
       of_const hc (by omega) (by omega) (by omega) fun i i0 i1 ⟨g1, g2⟩ => by have := hno _ (.inr ⟨i, i0, i1, rfl⟩) g1; omega⟩) (b - f - 1) (by omega)
    rw [show f + (b - f - 1 + 1) = b by omega] at hrun
    have := seg_ref hr hc l b (X ++ [((f : Int), (b : Int), ofI n r f, ofI n c f)]) han hrun (fun s hs hbn => by
      rw [List.getLast?_append] at hs
      simp only [List.getLast?_singleton, Option.some_or, Option.some.injEq] at hs
      subst hs
      rintro ⟨g1, g2⟩
      rcases hca with ⟨i, _, _, he⟩ | ⟨i, _, _, he⟩
      · exact of_chg hr (by omega) hfa hbn he g1
      · exact of_chg hc (by omega) hfa hbn he g2) ha.2 fun x => by
        constructor
        · intro hx
          have := ha.1 x hx
          exact ⟨((hm x).1 (List.mem_cons_of_mem _ hx)).1, this⟩
        · rintro ⟨hx, hbx⟩
          rcases List.mem_cons.1 ((hm x).2 ⟨hx, by omega⟩) with h | h
          · omega
          · exact h
    rw [this, segS, List.append_assoc]
    rfl
end
section
open Go.RowKit
attribute [local irreducible] FS FO IT HS

def sg (s : Sg) : List SV := [.int .i64 s.1, .int .i64 s.2.1, .int .i64 s.2.2.1, .int .i64 s.2.2.2]
def sgs (l : List Sg) : List (List SV) := l.map sg
def SG (l : List Sg) : SV := .slc 4 (sgs l)
theorem sgs_len (l : List Sg) : (sgs l).length = l.length := by simp [sgs]
theorem sgs_append (l m : List Sg) : sgs (l ++ m) = sgs l ++ sgs m := by simp [sgs]
theorem sgs_last (l : List Sg) (s : Sg) {q : Nat} (h : q = l.length) : (sgs (l ++ [s]))[q]? = some [.int .i64 s.1, .int .i64 s.2.1, .int .i64 s.2.2.1, .int .i64 s.2.2.2] := by
  subst h
  rw [sgs_append, List.getElem?_append_right (by rw [sgs_len]; omega), sgs_len, Nat.sub_self]
  rfl
theorem sgs_set (l : List Sg) (s : Sg) (x : List SV) {q : Nat} (h : q = l.length) : (sgs (l ++ [s])).set q x = sgs l ++ [x] := by
  subst h
  rw [sgs_append, List.set_append_right _ _ (by rw [sgs_len]; omega), sgs_len, Nat.sub_self]
  rfl
theorem frz_sgs {k : Nat} {l : List Sg} (h : k = l.length) : List.take k (List.drop 0 (sgs l)) = sgs l := by
  rw [List.drop_zero, h, ← sgs_len, List.take_length]
theorem refS_len (n r c : Int) : ∀ m, (refS n r c m).length ≤ m
  | 0 => Nat.le_refl _
  | m + 1 => by
    have ih := refS_len n r c m
    unfold refS
    split
    · split
      · rw [List.length_append, List.length_dropLast]; simp; omega
      · rw [List.length_append]; simp; omega
    · rw [List.length_append]; simp; omega
theorem refS_nil {n r c : Int} {k : Nat} (h : refS n r c k = []) : refS n r c (k + 1) = [((k : Int), (k : Int) + 1, ofI n r k, ofI n c k)] := by
  unfold refS
  rw [h]
  rfl
theorem refS_snoc {n r c : Int} {k : Nat} {L : List Sg} {s : Sg} (h : refS n r c k = L ++ [s]) : refS n r c (k + 1) = if s.2.2.1 = ofI n r k ∧ s.2.2.2 = ofI n c k then L ++ [(s.1, (k : Int) + 1, s.2.2.1, s.2.2.2)] else L ++ [s] ++ [((k : Int), (k : Int) + 1, ofI n r k, ofI n c k)] := by
  have e : (L ++ [s]).getLast? = some s := by simp
  have e2 : (L ++ [s]).dropLast = L := by simp
  unfold refS
  rw [h, e, e2]
/-- What both say: nothing where it may not be cut. -/
def segR (n r c : Int) : List Sg := if mayB n r = true ∧ mayB n c = true then refS n r c n.toNat else []

def ir_fretworkref17_Segments : IR :=
(.seq (.reg (⟨(some 6), .mv (.c (.nils)), none⟩ :: [])) (.seq (.reg (⟨(some 7), .mv (.c (.nils)), none⟩ :: [])) (.seq (.seq (.reg (⟨(some 12), .mv (.t 0), none⟩ ::⟨(some 13), .mv (.t 1), none⟩ ::⟨(some 14), .call (.c (.fn 27 [])) [(.t 12), (.t 13)], none⟩ ::⟨(some 15), .un .not (.t 14), none⟩ ::⟨(some 16), .mv (.t 15), none⟩ ::⟨(some 17), .mv (.t 0), some (16, false)⟩ ::⟨(some 18), .mv (.t 2), some (16, false)⟩ ::⟨(some 19), .call (.c (.fn 27 [])) [(.t 17), (.t 18)], some (16, false)⟩ ::⟨(some 20), .un .not (.t 19), some (16, false)⟩ ::⟨(some 21), .pick (.t 16) (.c (.bool true)) (.t 20), none⟩ :: [])) (.cond (.t 21) (.seq (.reg (⟨(some 22), .mv (.t 7), none⟩ ::⟨(some 6), .mv (.t 22), none⟩ :: [])) .ret) .skip)) (.seq (.seq (.reg (⟨(some 8), .mv (.c (.int .i64 0)), none⟩ :: [])) (.block 0 (.loop (.seq (.seq (.reg (⟨(some 23), .mv (.t 8), none⟩ ::⟨(some 24), .mv (.t 0), none⟩ ::⟨(some 25), .bin .lss (.t 23) (.t 24), none⟩ :: [])) (.cond (.t 25) .skip (.exit 0))) (.seq (.block 1 (.seq (.reg (⟨(some 28), .mv (.t 0), none⟩ ::⟨(some 29), .mv (.t 1), none⟩ ::⟨(some 30), .mv (.t 8), none⟩ ::⟨(some 31), .call (.c (.fn 16 [])) [(.t 28), (.t 29), (.t 30)], none⟩ ::⟨(some 32), .mv (.t 0), none⟩ ::⟨(some 33), .mv (.t 2), none⟩ ::⟨(some 34), .mv (.t 8), none⟩ ::⟨(some 35), .call (.c (.fn 16 [])) [(.t 32), (.t 33), (.t 34)], none⟩ ::⟨(some 9), .mv (.t 31), none⟩ ::⟨(some 10), .mv (.t 35), none⟩ :: [])) (.seq (.reg (⟨(some 36), .mv (.t 7), none⟩ ::⟨(some 37), .ln (.t 36), none⟩ ::⟨(some 11), .mv (.t 37), none⟩ :: [])) (.seq (.reg (⟨(some 38), .mv (.t 11), none⟩ ::⟨(some 39), .bin .gtr (.t 38) (.c (.int .i64 0)), none⟩ ::⟨(some 40), .mv (.t 39), none⟩ ::⟨(some 41), .mv (.t 7), some (40, true)⟩ ::⟨(some 42), .mv (.t 11), some (40, true)⟩ ::⟨(some 43), .bin .sub (.t 42) (.c (.int .i64 1)), some (40, true)⟩ ::⟨(some 44), .ia 4 (.t 41) (.t 43), some (40, true)⟩ ::⟨(some 45), .fa 2 (.t 44), some (40, true)⟩ ::⟨(some 46), .ld 1 false (.t 45), some (40, true)⟩ ::⟨(some 47), .mv (.t 9), some (40, true)⟩ ::⟨(some 48), .bin .eql (.t 46) (.t 47), some (40, true)⟩ ::⟨(some 49), .pick (.t 40) (.t 48) (.c (.bool false)), none⟩ ::⟨(some 50), .mv (.t 49), none⟩ ::⟨(some 51), .mv (.t 7), some (50, true)⟩ ::⟨(some 52), .mv (.t 11), some (50, true)⟩ ::⟨(some 53), .bin .sub (.t 52) (.c (.int .i64 1)), some (50, true)⟩ ::⟨(some 54), .ia 4 (.t 51) (.t 53), some (50, true)⟩ ::⟨(some 55), .fa 3 (.t 54), some (50, true)⟩ ::⟨(some 56), .ld 1 false (.t 55), some (50, true)⟩ ::⟨(some 57), .mv (.t 10), some (50, true)⟩ ::⟨(some 58), .bin .eql (.t 56) (.t 57), some (50, true)⟩ ::⟨(some 59), .pick (.t 50) (.t 58) (.c (.bool false)), none⟩ :: [])) (.cond (.t 59) (.reg (⟨(some 60), .mv (.t 7), none⟩ ::⟨(some 61), .mv (.t 11), none⟩ ::⟨(some 62), .bin .sub (.t 61) (.c (.int .i64 1)), none⟩ ::⟨(some 63), .mv (.t 8), none⟩ ::⟨(some 64), .bin .add (.t 63) (.c (.int .i64 1)), none⟩ ::⟨(some 65), .ia 4 (.t 60) (.t 62), none⟩ ::⟨(some 66), .fa 1 (.t 65), none⟩ ::⟨none, .st 1 (.t 66) (.t 64), none⟩ :: [])) (.reg (⟨(some 67), .mv (.t 7), none⟩ ::⟨(some 68), .mv (.t 8), none⟩ ::⟨(some 69), .mv (.t 8), none⟩ ::⟨(some 70), .bin .add (.t 69) (.c (.int .i64 1)), none⟩ ::⟨(some 71), .mv (.t 9), none⟩ ::⟨(some 72), .mv (.t 10), none⟩ ::⟨(some 73), .bld [.int .i64 0, .int .i64 0, .int .i64 0, .int .i64 0] [(0, 1, (.t 68)), (1, 1, (.t 70)), (2, 1, (.t 71)), (3, 1, (.t 72))], none⟩ ::⟨(some 74), .bsl 1 4 [.int .i64 0, .int .i64 0, .int .i64 0, .int .i64 0] [(0, (.t 73))], none⟩ ::⟨(some 75), .ap 4 32 (.t 67) (.t 74), none⟩ ::⟨(some 7), .mv (.t 75), none⟩ :: []))))))) (.reg (⟨(some 26), .mv (.t 8), none⟩ ::⟨(some 27), .bin .add (.t 26) (.c (.int .i64 1)), none⟩ ::⟨(some 8), .mv (.t 27), none⟩ :: []))))))) (.seq (.reg (⟨(some 76), .mv (.t 7), none⟩ ::⟨(some 6), .mv (.t 76), none⟩ :: [])) .ret)))))
theorem cd_fretworkref17_Segments : Code1 Try.prog 25 77 ir_fretworkref17_Segments [.t 6] := ⟨Try.call25, _, _, Try.func25, rfl, by kernel_rfl, by kernel_rfl, by kernel_rfl, by kernel_rfl⟩

set_option maxHeartbeats 4000000 in
theorem fs_rSegments (n r c : Int) : FS Try.prog 25 [.int .i64 n, .int .i64 r, .int .i64 c] (SG (segR n r c)) := by
  refine fs_of_cvc mixed cd_fretworkref17_Segments (by simp) ?_
  have c1 := fs_rmay n r
  have c2 := fs_rmay n c
  unfold segR
  cases hr : mayB n r with
  | false =>
    rw [hr] at c1
    rw [if_neg fun h => by cases h.1]
    repeat' (conv => whnf); first
      | ((refine Or.inl ⟨by rfl, _, c1, ?_⟩))
      | ((refine Or.inl ⟨by rfl, _, c2, ?_⟩))
      | ((refine Br.beq (by rfl) ?_))
      | ((refine Br.bne (by rfl) ?_))
      | ((refine And.intro (show (_ : Int) ≠ 0 by omega) ?_))
      | ((refine And.intro (Or.inl (Nat.zero_le _)) ?_))
      | ((refine And.intro (show _ ≤ _ from Nat.le_of_ble_eq_true rfl) ?_))
      | ((refine And.intro (by intro y hy; simp at hy; subst hy; rfl) ?_))
      | (refine Br.tt ?_)
      | (refine Br.ff ?_)
      | (refine Br.dec (fun h => ?_) (fun h => ?_)) <;> try (exfalso; omega)
      | (refine Br.neg ?_)
      | (refine Br.mk (fun h => ?_) (fun h => ?_))
      | (refine And.intro rfl ?_)
      | (refine And.intro (by omega) ?_)
      | (refine ⟨_, Or.inl ⟨⟨by omega, by omega⟩, rfl⟩, ?_⟩)
      | (refine And.intro (by simp only [lens_all, sgs_len]; first | done | omega) ?_)
      | (refine And.intro (Nat.le_refl _) ?_)
      | fail
    all_goals first | exact rfl | exact trivial | exact ⟨rfl, trivial⟩
  | true =>
    rw [hr] at c1
    cases hc : mayB n c with
    | false =>
      rw [hc] at c2
      rw [if_neg fun h => by cases h.2]
      repeat' (conv => whnf); first
        | ((refine Or.inl ⟨by rfl, _, c1, ?_⟩))
        | ((refine Or.inl ⟨by rfl, _, c2, ?_⟩))
        | ((refine Br.beq (by rfl) ?_))
        | ((refine Br.bne (by rfl) ?_))
        | ((refine And.intro (show (_ : Int) ≠ 0 by omega) ?_))
        | ((refine And.intro (Or.inl (Nat.zero_le _)) ?_))
        | ((refine And.intro (show _ ≤ _ from Nat.le_of_ble_eq_true rfl) ?_))
        | ((refine And.intro (by intro y hy; simp at hy; subst hy; rfl) ?_))
        | (refine Br.tt ?_)
        | (refine Br.ff ?_)
        | (refine Br.dec (fun h => ?_) (fun h => ?_)) <;> try (exfalso; omega)
        | (refine Br.neg ?_)
        | (refine Br.mk (fun h => ?_) (fun h => ?_))
        | (refine And.intro rfl ?_)
        | (refine And.intro (by omega) ?_)
        | (refine ⟨_, Or.inl ⟨⟨by omega, by omega⟩, rfl⟩, ?_⟩)
        | (refine And.intro (by simp only [lens_all, sgs_len]; first | done | omega) ?_)
        | (refine And.intro (Nat.le_refl _) ?_)
        | fail
      all_goals first | exact rfl | exact trivial | exact ⟨rfl, trivial⟩
    | true =>
      rw [hc] at c2
      rw [if_pos ⟨rfl, rfl⟩]
      obtain ⟨h0, h1, h2, h3⟩ := mayB_iff.1 hr
      repeat' (conv => whnf); first
        | ((refine Or.inl ⟨by rfl, _, c1, ?_⟩))
        | ((refine Or.inl ⟨by rfl, _, c2, ?_⟩))
        | ((refine Br.beq (by rfl) ?_))
        | ((refine Br.bne (by rfl) ?_))
        | ((refine And.intro (show (_ : Int) ≠ 0 by omega) ?_))
        | ((refine And.intro (Or.inl (Nat.zero_le _)) ?_))
        | ((refine And.intro (show _ ≤ _ from Nat.le_of_ble_eq_true rfl) ?_))
        | ((refine And.intro (by intro y hy; simp at hy; subst hy; rfl) ?_))
        | (refine Br.tt ?_)
        | (refine Br.ff ?_)
        | (refine Br.dec (fun h => ?_) (fun h => ?_)) <;> try (exfalso; omega)
        | (refine Br.neg ?_)
        | (refine Br.mk (fun h => ?_) (fun h => ?_))
        | (refine And.intro rfl ?_)
        | (refine And.intro (by omega) ?_)
        | (refine ⟨_, Or.inl ⟨⟨by omega, by omega⟩, rfl⟩, ?_⟩)
        | (refine And.intro (by simp only [lens_all, sgs_len]; first | done | omega) ?_)
        | (refine And.intro (Nat.le_refl _) ?_)
        | fail
      refine ⟨Nat × List Sg, fun ⟨k, L⟩ => refS n r c k = L ∧ (k : Int) ≤ n, fun ⟨k, L⟩ => [(0, .int .i64 n), (1, .int .i64 r), (2, .int .i64 c), (7, .osl 0 4 0 L.length), (8, .int .i64 (k : Int))], fun ⟨k, L⟩ => [.arr 4 (sgs L)], fun _ => none, fun ⟨k, L⟩ => n.toNat - k,
        ⟨(0, []), ⟨rfl, h0⟩, ⟨rfl, rfl, rfl, ⟨Nat.le_refl _, rfl, rfl⟩, rfl, trivial⟩, ⟨rfl, trivial⟩, rfl⟩, ?_⟩
      rintro ⟨k, L⟩ ⟨hL, hk⟩
      have hlen := refS_len n r c k
      rw [hL] at hlen
      have hsl := sgs_len L
      by_cases hkn : (k : Int) < n
      · have c3 := fs_rOf n r k
        have c4 := fs_rOf n c k
        rcases List.eq_nil_or_concat L with rfl | ⟨L', s, rfl⟩
        · have hst := refS_nil hL
          generalize ofI n r k = R at *
          generalize ofI n c k = C at *
          repeat' (conv => whnf); first
            | ((refine Or.inl ⟨by rfl, _, c3, ?_⟩))
            | ((refine Or.inl ⟨by rfl, _, c4, ?_⟩))
            | ((refine Br.beq (by rfl) ?_))
            | ((refine Br.bne (by rfl) ?_))
            | ((refine And.intro (show (_ : Int) ≠ 0 by omega) ?_))
            | ((refine And.intro (Or.inl (Nat.zero_le _)) ?_))
            | ((refine And.intro (show _ ≤ _ from Nat.le_of_ble_eq_true rfl) ?_))
            | ((refine And.intro (by intro y hy; simp at hy; subst hy; rfl) ?_))
            | (refine Br.tt ?_)
            | (refine Br.ff ?_)
            | (refine Br.dec (fun h => ?_) (fun h => ?_)) <;> try (exfalso; omega)
            | (refine Br.neg ?_)
            | (refine Br.mk (fun h => ?_) (fun h => ?_))
            | (refine And.intro rfl ?_)
            | (refine And.intro (by omega) ?_)
            | (refine ⟨_, Or.inl ⟨⟨by omega, by omega⟩, rfl⟩, ?_⟩)
            | (refine And.intro (by simp only [lens_all, sgs_len]; first | done | omega) ?_)
            | (refine And.intro (Nat.le_refl _) ?_)
            | fail
          exact ⟨(k + 1, _), ⟨hst, (show ((k + 1 : Nat) : Int) ≤ n by omega)⟩, (show n.toNat - (k + 1) < n.toNat - k by omega), ⟨rfl, rfl, rfl, rfl, rfl, trivial⟩, ⟨rfl, trivial⟩, rfl⟩
        · rw [List.concat_eq_append] at *
          have hst := refS_snoc hL
          generalize ofI n r k = R at *
          generalize ofI n c k = C at *
          rw [List.length_append] at hlen hsl
          simp only [List.length_singleton] at hlen hsl
          have hq : ∀ q, q = L'.length → (sgs (L' ++ [s]))[q]? = some [.int .i64 s.1, .int .i64 s.2.1, .int .i64 s.2.2.1, .int .i64 s.2.2.2] := fun q hq => sgs_last L' s hq
          have hll : (L' ++ [s]).length = L'.length + 1 := by simp
          by_cases e1 : s.2.2.1 = R
          · by_cases e2 : s.2.2.2 = C
            · rw [if_pos ⟨e1, e2⟩] at hst
              repeat' (conv => whnf); first
                | ((refine Or.inl ⟨by rfl, _, c3, ?_⟩))
                | ((refine Or.inl ⟨by rfl, _, c4, ?_⟩))
                | ((refine ⟨_, hq _ (by omega), ?_⟩))
                | ((refine Br.beq (by rfl) ?_))
                | ((refine Br.bne (by rfl) ?_))
                | ((refine And.intro (show (_ : Int) ≠ 0 by omega) ?_))
                | ((refine And.intro (Or.inl (Nat.zero_le _)) ?_))
                | ((refine And.intro (show _ ≤ _ from Nat.le_of_ble_eq_true rfl) ?_))
                | ((refine And.intro (by intro y hy; simp at hy; subst hy; rfl) ?_))
                | (refine Br.tt ?_)
                | (refine Br.ff ?_)
                | (refine Br.dec (fun h => ?_) (fun h => ?_)) <;> try (exfalso; omega)
                | (refine Br.neg ?_)
                | (refine Br.mk (fun h => ?_) (fun h => ?_))
                | (refine And.intro rfl ?_)
                | (refine And.intro (by omega) ?_)
                | (refine ⟨_, Or.inl ⟨⟨by omega, by omega⟩, rfl⟩, ?_⟩)
                | (refine And.intro (by simp only [lens_all, sgs_len]; first | done | omega) ?_)
                | (refine And.intro (Nat.le_refl _) ?_)
                | fail
              refine ⟨(k + 1, _), ⟨hst, (show ((k + 1 : Nat) : Int) ≤ n by omega)⟩, (show n.toNat - (k + 1) < n.toNat - k by omega), ⟨rfl, rfl, rfl, ?_, rfl, trivial⟩, ⟨?_, trivial⟩, rfl⟩
              · exact congrArg (SV.osl 0 4 0) (by simp)
              · have hi : 0 + (((L' ++ [s]).length : Int) - 1).toNat = L'.length := by omega
                show Blk.arr 4 ((sgs (L' ++ [s])).set (0 + (((L' ++ [s]).length : Int) - 1).toNat) [.int .i64 s.1, .int .i64 ((k : Int) + 1), .int .i64 s.2.2.1, .int .i64 s.2.2.2]) = _
                rw [sgs_set L' s _ hi]
                exact congrArg (Blk.arr 4) (sgs_append L' [(s.1, (k : Int) + 1, s.2.2.1, s.2.2.2)]).symm
            · rw [if_neg fun g => e2 g.2] at hst
              repeat' (conv => whnf); first
                | ((refine Or.inl ⟨by rfl, _, c3, ?_⟩))
                | ((refine Or.inl ⟨by rfl, _, c4, ?_⟩))
                | ((refine ⟨_, hq _ (by omega), ?_⟩))
                | ((refine Br.beq (by rfl) ?_))
                | ((refine Br.bne (by rfl) ?_))
                | ((refine And.intro (show (_ : Int) ≠ 0 by omega) ?_))
                | ((refine And.intro (Or.inl (Nat.zero_le _)) ?_))
                | ((refine And.intro (show _ ≤ _ from Nat.le_of_ble_eq_true rfl) ?_))
                | ((refine And.intro (by intro y hy; simp at hy; subst hy; rfl) ?_))
                | (refine Br.tt ?_)
                | (refine Br.ff ?_)
                | (refine Br.dec (fun h => ?_) (fun h => ?_)) <;> try (exfalso; omega)
                | (refine Br.neg ?_)
                | (refine Br.mk (fun h => ?_) (fun h => ?_))
                | (refine And.intro rfl ?_)
                | (refine And.intro (by omega) ?_)
                | (refine ⟨_, Or.inl ⟨⟨by omega, by omega⟩, rfl⟩, ?_⟩)
                | (refine And.intro (by simp only [lens_all]; first | done | omega) ?_)
                | (refine And.intro (Nat.le_refl _) ?_)
                | fail
              refine ⟨(k + 1, _), ⟨hst, (show ((k + 1 : Nat) : Int) ≤ n by omega)⟩, (show n.toNat - (k + 1) < n.toNat - k by omega), ⟨rfl, rfl, rfl, ?_, rfl, trivial⟩, ⟨?_, trivial⟩, rfl⟩
              · exact congrArg (SV.osl 0 4 0) (by simp)
              · exact congrArg (Blk.arr 4) (sgs_append (L' ++ [s]) [((k : Int), (k : Int) + 1, R, C)]).symm
          · rw [if_neg fun g => e1 g.1] at hst
            repeat' (conv => whnf); first
              | ((refine Or.inl ⟨by rfl, _, c3, ?_⟩))
              | ((refine Or.inl ⟨by rfl, _, c4, ?_⟩))
              | ((refine ⟨_, hq _ (by omega), ?_⟩))
              | ((refine Br.beq (by rfl) ?_))
              | ((refine Br.bne (by rfl) ?_))
              | ((refine And.intro (show (_ : Int) ≠ 0 by omega) ?_))
              | ((refine And.intro (Or.inl (Nat.zero_le _)) ?_))
              | ((refine And.intro (show _ ≤ _ from Nat.le_of_ble_eq_true rfl) ?_))
              | ((refine And.intro (by intro y hy; simp at hy; subst hy; rfl) ?_))
              | (refine Br.tt ?_)
              | (refine Br.ff ?_)
              | (refine Br.dec (fun h => ?_) (fun h => ?_)) <;> try (exfalso; omega)
              | (refine Br.neg ?_)
              | (refine Br.mk (fun h => ?_) (fun h => ?_))
              | (refine And.intro rfl ?_)
              | (refine And.intro (by omega) ?_)
              | (refine ⟨_, Or.inl ⟨⟨by omega, by omega⟩, rfl⟩, ?_⟩)
              | (refine And.intro (by simp only [lens_all]; first | done | omega) ?_)
              | (refine And.intro (Nat.le_refl _) ?_)
              | fail
            refine ⟨(k + 1, _), ⟨hst, (show ((k + 1 : Nat) : Int) ≤ n by omega)⟩, (show n.toNat - (k + 1) < n.toNat - k by omega), ⟨rfl, rfl, rfl, ?_, rfl, trivial⟩, ⟨?_, trivial⟩, rfl⟩
            · exact congrArg (SV.osl 0 4 0) (by simp)
            · exact congrArg (Blk.arr 4) (sgs_append (L' ++ [s]) [((k : Int), (k : Int) + 1, R, C)]).symm
      · obtain rfl : n.toNat = k := by omega
        rw [← hL]
        repeat' (conv => whnf); first
          | ((refine Br.beq (by rfl) ?_))
          | ((refine Br.bne (by rfl) ?_))
          | ((refine And.intro (show (_ : Int) ≠ 0 by omega) ?_))
          | ((refine And.intro (Or.inl (Nat.zero_le _)) ?_))
          | ((refine And.intro (show _ ≤ _ from Nat.le_of_ble_eq_true rfl) ?_))
          | ((refine And.intro (by intro y hy; simp at hy; subst hy; rfl) ?_))
          | (refine Br.tt ?_)
          | (refine Br.ff ?_)
          | (refine Br.dec (fun h => ?_) (fun h => ?_)) <;> try (exfalso; omega)
          | (refine Br.neg ?_)
          | (refine Br.mk (fun h => ?_) (fun h => ?_))
          | (refine And.intro rfl ?_)
          | (refine And.intro (by omega) ?_)
          | (refine ⟨_, Or.inl ⟨⟨by omega, by omega⟩, rfl⟩, ?_⟩)
          | (refine And.intro (by simp only [sgs_len]; first | done | omega) ?_)
          | (refine And.intro (Nat.le_refl _) ?_)
          | fail
        conv => whnf
        rw [frz_sgs rfl]
end
section
open Go.RowKit
attribute [local irreducible] FS FO IT HS

theorem sgs_go {l : List Sg} {s : Sg} {q i : Nat} {K : List SV → Prop} (hq : q = i) (hx : l[i]? = some s) (h : K [.int .i64 s.1, .int .i64 s.2.1, .int .i64 s.2.2.1, .int .i64 s.2.2.2]) : ∀ x, (sgs l)[q]? = some x → K x := fun x hx' => by
  subst hq
  unfold sgs at hx'
  rw [List.getElem?_map, hx] at hx'
  cases hx'
  exact h
theorem eqs (a b c d : Int) : EqOk Try.prog true 32 [.int .i64 a, .int .i64 b, .int .i64 c, .int .i64 d] [.int .i64 a, .int .i64 b, .int .i64 c, .int .i64 d] false := by
  have h := eqok_flat (P := Try.prog) true Try.underlying32 (by kernel_rfl) (by kernel_rfl) (ks := [.i64, .i64, .i64, .i64]) ⟨by decide, rfl, by kernel_rfl, by kernel_rfl, by kernel_rfl, by decide, rfl, by kernel_rfl, by kernel_rfl, by kernel_rfl, by decide, rfl, by kernel_rfl, by kernel_rfl, by kernel_rfl, by decide, rfl, by kernel_rfl, by kernel_rfl, by kernel_rfl, trivial⟩ (la := [a, b, c, d]) (lb := [a, b, c, d]) rfl rfl
  have e : decide ([a, b, c, d] ≠ [a, b, c, d]) = false := by simp
  simp only [e] at h
  exact h

def ir_fretworklaw17_sameSegments : IR :=
(.seq (.reg (⟨(some 4), .mv (.c (.bool false)), none⟩ :: [])) (.seq (.seq (.reg (⟨(some 6), .mv (.t 0), none⟩ ::⟨(some 7), .ln (.t 6), none⟩ ::⟨(some 8), .mv (.t 1), none⟩ ::⟨(some 9), .ln (.t 8), none⟩ ::⟨(some 10), .bin .neq (.t 7) (.t 9), none⟩ :: [])) (.cond (.t 10) (.seq (.reg (⟨(some 4), .mv (.c (.bool false)), none⟩ :: [])) .ret) .skip)) (.seq (.seq (.reg (⟨(some 5), .mv (.c (.int .i64 0)), none⟩ :: [])) (.block 0 (.loop (.seq (.seq (.reg (⟨(some 11), .mv (.t 5), none⟩ ::⟨(some 12), .mv (.t 0), none⟩ ::⟨(some 13), .ln (.t 12), none⟩ ::⟨(some 14), .bin .lss (.t 11) (.t 13), none⟩ :: [])) (.cond (.t 14) .skip (.exit 0))) (.seq (.block 1 (.seq (.draw (⟨(some 17), .mv (.t 0), none⟩ ::⟨(some 18), .mv (.t 5), none⟩ ::⟨(some 19), .ia 4 (.t 17) (.t 18), none⟩ ::⟨(some 20), .ld 4 true (.t 19), none⟩ ::⟨(some 21), .mv (.t 1), none⟩ ::⟨(some 22), .mv (.t 5), none⟩ ::⟨(some 23), .ia 4 (.t 21) (.t 22), none⟩ ::⟨(some 24), .ld 4 true (.t 23), none⟩ :: []) (⟨(some 25), .eqv true 32 (.t 20) (.t 24), none⟩ :: [])) (.cond (.t 25) (.seq (.reg (⟨(some 4), .mv (.c (.bool false)), none⟩ :: [])) .ret) .skip))) (.reg (⟨(some 15), .mv (.t 5), none⟩ ::⟨(some 16), .bin .add (.t 15) (.c (.int .i64 1)), none⟩ ::⟨(some 5), .mv (.t 16), none⟩ :: []))))))) (.seq (.reg (⟨(some 4), .mv (.c (.bool true)), none⟩ :: [])) .ret))))
theorem cd_fretworklaw17_sameSegments : Code1 Try.prog 23 26 ir_fretworklaw17_sameSegments [.t 4] := ⟨Try.call23, _, _, Try.func23, rfl, by kernel_rfl, by kernel_rfl, by kernel_rfl, by kernel_rfl⟩

theorem fs_sameSeg (l : List Sg) (hl : l.length ≤ 1000000000) : FS Try.prog 23 [SG l, SG l] (.bool true) := by
  refine fs_of_cvc mixed cd_fretworklaw17_sameSegments (by simp) ?_
  have h1 := sgs_len l
  repeat' (conv => whnf); first
    | ((refine Br.beq (by rfl) ?_))
    | ((refine Br.bne (by rfl) ?_))
    | (refine Br.tt ?_)
    | (refine Br.ff ?_)
    | (refine Br.dec (fun h => ?_) (fun h => ?_)) <;> try (exfalso; omega)
    | (refine Br.neg ?_)
    | (refine Br.mk (fun h => ?_) (fun h => ?_))
    | (refine And.intro rfl ?_)
    | (refine And.intro (by omega) ?_)
    | (refine ⟨_, Or.inl ⟨⟨by omega, by omega⟩, rfl⟩, ?_⟩)
    | (refine And.intro (by simp only [lens_all, sgs_len]; first | done | omega) ?_)
    | (refine And.intro (Nat.le_refl _) ?_)
    | fail
  refine ⟨Nat, fun k => k ≤ l.length, fun k => [(0, SG l), (1, SG l), (5, .int .i64 (k : Int))], fun k => [], fun _ => none, fun k => l.length - k, ⟨0, Nat.zero_le _, ⟨rfl, rfl, rfl, trivial⟩, trivial, rfl⟩, fun k hk => ?_⟩
  have hk : k ≤ l.length := hk
  by_cases hkl : k < l.length
  · obtain ⟨s, hs⟩ : ∃ s, l[k]? = some s := ⟨_, List.getElem?_eq_getElem hkl⟩
    repeat' (conv => whnf); first
      | ((refine sgs_go (i := k) (by omega) hs ?_))
      | ((refine ⟨_, eqs _ _ _ _, ?_⟩))
      | ((refine Br.beq (by rfl) ?_))
      | ((refine Br.bne (by rfl) ?_))
      | (refine Br.tt ?_)
      | (refine Br.ff ?_)
      | (refine Br.dec (fun h => ?_) (fun h => ?_)) <;> try (exfalso; omega)
      | (refine Br.neg ?_)
      | (refine Br.mk (fun h => ?_) (fun h => ?_))
      | (refine And.intro rfl ?_)
      | (refine And.intro (by omega) ?_)
      | (refine ⟨_, Or.inl ⟨⟨by omega, by omega⟩, rfl⟩, ?_⟩)
      | (refine And.intro (by simp only [lens_all]; first | done | omega) ?_)
      | (refine And.intro (Nat.le_refl _) ?_)
      | fail
    exact ⟨k + 1, (show k + 1 ≤ l.length by omega), (show l.length - (k + 1) < l.length - k by omega), ⟨rfl, rfl, rfl, trivial⟩, trivial, rfl⟩
  · obtain rfl : k = l.length := by omega
    repeat' (conv => whnf); first
      | ((refine Br.beq (by rfl) ?_))
      | ((refine Br.bne (by rfl) ?_))
      | (refine Br.tt ?_)
      | (refine Br.ff ?_)
      | (refine Br.dec (fun h => ?_) (fun h => ?_)) <;> try (exfalso; omega)
      | (refine Br.neg ?_)
      | (refine Br.mk (fun h => ?_) (fun h => ?_))
      | (refine And.intro rfl ?_)
      | (refine And.intro (by omega) ?_)
      | (refine ⟨_, Or.inl ⟨⟨by omega, by omega⟩, rfl⟩, ?_⟩)
      | (refine And.intro (by simp only [lens_all, sgs_len]; first | done | omega) ?_)
      | (refine And.intro (Nat.le_refl _) ?_)
      | fail
    all_goals exact rfl
end
end Go.Proofs.Ytjaakpigkoakkaa
