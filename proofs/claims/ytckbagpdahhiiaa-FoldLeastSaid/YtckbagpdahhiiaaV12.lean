/- Vectors of whatever items can be; one over the other. Parts of a vector, and what is better. What two vectors come to, from both sides and in any order. -/
import Derived.Test.YtckbagpdahhiiaaV11
namespace Go.Proofs.Ytckbagpdahhiiaa
section
open Go.RowKit
attribute [local irreducible] FS FO IT HS

theorem cmb_ok {K : Int} : ∀ (l E : List (Int × Int × Int)) (S : List Int), OkE K E → (∀ s ∈ S, I64 s) → (∀ x ∈ l, (x.1 = 0 ∧ 0 ≤ x.2.1 ∧ x.2.1 < K) ∧ I64 x.2.2) → OkE K (l.foldl (cStep 1) (E, S)).1 ∧ ∀ s ∈ (l.foldl (cStep 1) (E, S)).2, I64 s
  | [], E, S, h1, h2, _ => ⟨h1, h2⟩
  | x :: l, E, S, h1, h2, h3 => by
    have hx := h3 x (by simp)
    exact cmb_ok l (cStep 1 (E, S) x).1 (cStep 1 (E, S) x).2 (cStep_ok h1 hx.1) (cStep_i h2 hx.2) fun y hy => h3 y (by simp [hy])
theorem fits_i {x : Int} (h : I64 x) : fits x = true := by
  unfold I64 at h
  unfold fits
  exact decide_eq_true (by omega)
theorem nar_i (x : Int) : I64 (nar x) := by
  unfold nar fits I64
  split
  · rename_i h; have := of_decide_eq_true h; omega
  · omega
theorem nar_of {x : Int} (h : I64 x) : nar x = x := by unfold nar; rw [if_pos (fits_i h)]
theorem of_ok {K : Int} (h0 : 0 ≤ K) (h1 : K ≤ 4096) {W : List (Int × Int)} (hb : Ib W) (hi : W.all (inN K) = true) : ∃ a, ofR 1 K W = (K, a, 0) ∧ OkV K a ∧ Ib a ∧ a.length ≤ W.length := by
  have hc := cmb_ok (K := K) (W.map toE) [] [] ⟨by simp, by simp⟩ (by simp) fun x hx => by
    obtain ⟨y, hy, rfl⟩ := List.mem_map.1 hx
    have := List.all_eq_true.1 hi y hy
    unfold inN at this
    rw [Bool.and_eq_true, decide_eq_true_eq, decide_eq_true_eq] at this
    exact ⟨⟨rfl, this⟩, (hb y hy).2⟩
  have hlen := cmb_len 1 (W.map toE) [] [] rfl
  have e1 : cmbR 1 (W.map toE) = (nrE (cmb 1 (W.map toE)).1 (cmb 1 (W.map toE)).2 (cmb 1 (W.map toE)).1.length, 0) := by
    unfold cmbR
    rw [if_pos (by decide), if_pos]
    rw [List.all_eq_true]
    exact fun s hs => fits_i (hc.2 s hs)
  have hc1 : OkE K (cmb 1 (W.map toE)).1 := hc.1
  have hlen2 : (cmb 1 (W.map toE)).1.length ≤ W.length := by
    have := hlen.2
    unfold cmb
    simpa using this
  generalize (cmb 1 (W.map toE)).1 = E at *
  generalize (cmb 1 (W.map toE)).2 = S at *
  have e2 : ((nrE E S E.length).map toI).map (fun x => x.1) = E.map fun e => e.2.1 := by
    apply List.ext_getElem?
    intro i
    by_cases h : i < E.length <;> simp [nrE, toI, h]
  refine ⟨(nrE E S E.length).map toI, ?_, ⟨h0, h1, ?_, fun x hx => ?_⟩, fun x hx => ?_, by simp [nrE_len]; exact hlen2⟩
  · unfold ofR
    rw [if_pos (by decide), if_pos ⟨h0, h1⟩, if_pos hi, e1]
    rfl
  · have := hc1.2
    rw [← e2, List.pairwise_map] at this
    exact this
  · have : x.1 ∈ E.map fun e => e.2.1 := by rw [← e2]; exact List.mem_map.2 ⟨x, hx, rfl⟩
    obtain ⟨e, he, h⟩ := List.mem_map.1 this
    have := hc1.1 e he
    have h' : e.2.1 = x.1 := h
    omega
  · have : x.1 ∈ E.map fun e => e.2.1 := by rw [← e2]; exact List.mem_map.2 ⟨x, hx, rfl⟩
    obtain ⟨e, he, h⟩ := List.mem_map.1 this
    have h2 := hc1.1 e he
    have h' : e.2.1 = x.1 := h
    refine ⟨by unfold I64; omega, ?_⟩
    obtain ⟨y, hy, rfl⟩ := List.mem_map.1 hx
    unfold nrE at hy
    obtain ⟨i, hi', rfl⟩ := List.mem_map.1 hy
    show I64 (if i < E.length then nar (S.getD i 0) else _)
    rw [if_pos (List.mem_range.1 hi')]
    exact nar_i _
theorem sm_ok {n : Int} (hn : 0 ≤ n ∧ n ≤ 255) {l : List (Int × Int)} (hb : Ib l) : ∃ a, smR n l = (n.tmod 60, a, 0) ∧ OkV (n.tmod 60) a ∧ Ib a ∧ a.length ≤ 60 := by
  have hK := tmod_bd hn.1 (show (0 : Int) < 60 by omega)
  unfold smR
  split
  · rename_i h0
    have h := smO_in h0 (by omega) (l := l.take 60) fun x hx => hb x (List.mem_of_mem_take hx)
    obtain ⟨a, h1, h2, h3, h4⟩ := of_ok hK.1 (by omega) h.1 h.2
    have h5 := smO_len (n.tmod 60) (l.take 60)
    have h6 : (l.take 60).length ≤ 60 := by simp; omega
    exact ⟨a, h1, h2, h3, by omega⟩
  · obtain ⟨a, h1, h2, h3, h4⟩ := of_ok hK.1 (by omega) (W := []) (fun x hx => by cases hx) rfl
    exact ⟨a, h1, h2, h3, by simp at h4; simp [h4]⟩

theorem okV_tab {K : Int} (h0 : 0 ≤ K) (h1 : K ≤ 4096) (g : Int → Option Int) : OkV K (tabL g K.toNat) := ⟨h0, h1, up_tabL _ _, fun x hx => by have := tabL_mem hx; omega⟩
end
section
open Go.RowKit
attribute [local irreducible] FS FO IT HS

theorem OkV.filt {K : Int} {l : List (Int × Int)} (h : OkV K l) (p : Int × Int → Bool) : OkV K (l.filter p) := ⟨h.n0, h.n1, h.up.filter p, fun x hx => h.lo x (List.mem_filter.1 hx).1⟩
theorem OkV.len {K : Int} : ∀ {l : List (Int × Int)} {j : Int}, Up l → (∀ x ∈ l, j ≤ x.1 ∧ x.1 < K) → j ≤ K → (l.length : Int) ≤ K - j
  | [], j, _, _, hj => by simp; omega
  | x :: l, j, hu, hl, hj => by
    have h1 := hl x (by simp)
    have := OkV.len (l := l) (j := x.1 + 1) hu.tail (fun y hy => ⟨by have := hu.head y hy; omega, (hl y (by simp [hy])).2⟩) (by omega)
    simp only [List.length_cons]; omega
theorem OkV.le {K : Int} {l : List (Int × Int)} (h : OkV K l) : l.length ≤ 4096 := by
  have := OkV.len h.up h.lo h.n0
  have := h.n1
  omega

/-- The least of two. -/
theorem rAdd_min (x y : Int) : rAdd 1 x y = if x ≤ y then x else y := by
  unfold rAdd
  rw [if_pos (by decide)]
end
section
open Go.RowKit
attribute [local irreducible] FS FO IT HS

theorem rAdd_lt3 {r : Int} (h : lt3 r = true) (x y : Int) : rAdd r x y = if x ≤ y then x else y := by
  unfold rAdd
  rw [if_pos h]
theorem i_of_fits {x : Int} (h : fits x = true) : I64 x := by
  unfold fits at h
  have := of_decide_eq_true h
  unfold I64; omega
theorem isR_cases {r : Int} (hr : isR r = true) (h2 : r ≠ 2) : lt3 r = true ∨ r = 5 := by
  unfold isR at hr
  rw [Bool.and_eq_true, decide_eq_true_eq, decide_eq_true_eq] at hr
  have : r = 1 ∨ r = 3 ∨ r = 4 ∨ r = 5 := by omega
  rcases this with h | h | h | h <;> subst h <;> first | (left; decide) | (right; rfl)
end
end Go.Proofs.Ytckbagpdahhiiaa
