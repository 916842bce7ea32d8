/- What an argument that can be read stands for. -/
import Derived.Test.YtefciekodhpefaaOp
import Derived.Test.YtefciekodhpefaaSy
import Derived.DataReads
namespace Go.Proofs.Ytefciekodhpefaa
open Go.RowKit

def nob : Nat → Prop := fun _ => False

theorem cell_heap {w : World} {a : Addr} {x : Value} (h : w.cell? a = some x) : a.spot = none ∧ ∃ (cs : Array Value) (T : TypeId) (fr : Nat × Nat), w.heap[a.block]? = some (.cells cs T fr) ∧ cs[a.off]? = some x := by
  unfold World.cell? at h
  split at h
  · rename_i c t fr hb
    split at h
    · cases h
    · rename_i hs
      refine ⟨?_, c, t, fr, hb, h⟩
      cases hh : a.spot with
      | none => rfl
      | some _ => simp [hh] at hs
  · cases h

theorem add_eq {a : Addr} (h : a.spot = none) (n : Nat) : a.add n = ⟨a.block, a.off + n, none⟩ := by
  obtain ⟨b, o, s⟩ := a
  simp at h; subst h
  unfold Addr.add
  split <;> simp_all

theorem mapM_at {α β : Type} {f : α → Option β} : ∀ {l : List α} {ys : List β}, l.mapM f = some ys → ∀ i, i < l.length → (l[i]?).bind f = ys[i]?
  | [], ys, h, i, hi => by simp at hi
  | b :: l, ys, h, i, hi => by
    simp only [List.mapM_cons, Option.bind_eq_bind, Option.bind_eq_some_iff, Option.pure_def] at h
    obtain ⟨y, hy, zs, hz, h⟩ := h
    cases h
    cases i with
    | zero => simpa using hy
    | succ i => simpa using mapM_at hz i (by simpa using hi)

/-- A slice whose elements can be read, each of c cells that stand for g x. -/
theorem rep_slice {P : Program} {w : World} {base : Nat} {t e : TypeId} {v : Value} {n c : Nat} {α : Type} (g : α → List SV) (ok : α → Prop) (hc : 0 < c) (hcell : P.cellsOf e = c) (ht : P.underlying t = some (.slice e)) (hv : Value.okWide P w .any base t v) (ho : Opened P w n t v.cells.toList)
    (elem : ∀ (m : Nat) (xs : List Value), Opened P w m e xs → ∃ x, ok x ∧ (g x).length = c ∧ Reps w nob [] (g x) xs) : ∃ l : List α, (∀ x ∈ l, ok x) ∧ l.length ≤ maxLen ∧ Rep w nob [] (.slc c (l.map g)) v := by
  have vv : ∀ (x : Value), v.cells.toList = [x] → (∃ a n k, x = .slice a n k) → v = x := by
    rintro _ hx ⟨a, n, k, rfl⟩
    unfold Value.okWide at hv
    simp only [ht] at hv
    cases v <;> simp_all [Value.cells, Cell.okWide, Cell.ok]
  rcases opened_slice ht ho with h | ⟨a, len, cap, h, h1, h2, m, h3⟩
  · have := vv _ h ⟨_, _, _, rfl⟩
    subst this
    exact ⟨[], by simp, Nat.zero_le _, .slcZ _ _ _⟩
  · have := vv _ h ⟨_, _, _, rfl⟩
    subst this
    rw [hcell] at h3
    rcases Nat.eq_zero_or_pos cap with h0 | h0
    · subst h0
      obtain rfl : len = 0 := by omega
      exact ⟨[], by simp, Nat.zero_le _, .slcZ _ _ _⟩
    -- each element
    have hx : ∀ i, ∃ y : α × List Value, i < cap → w.cells? 0 (a.add (i * c)) c = some y.2 ∧ ok y.1 ∧ (g y.1).length = c ∧ Reps w nob [] (g y.1) y.2 := fun i => by
      by_cases hi : i < cap
      · obtain ⟨xs, hxs, hop⟩ := h3 i hi
        obtain ⟨x, k1, k2, k3⟩ := elem m xs hop
        exact ⟨(x, xs), fun _ => ⟨hxs, k1, k2, k3⟩⟩
      · obtain ⟨xs, _, hop⟩ := h3 0 h0
        obtain ⟨x, _⟩ := elem m xs hop
        exact ⟨(x, xs), fun h => absurd h hi⟩
    obtain ⟨f, hf⟩ : ∃ f : Nat → α × List Value, ∀ i, i < cap → w.cells? 0 (a.add (i * c)) c = some (f i).2 ∧ ok (f i).1 ∧ (g (f i).1).length = c ∧ Reps w nob [] (g (f i).1) (f i).2 :=
      ⟨fun i => Classical.choose (hx i), fun i => Classical.choose_spec (hx i)⟩
    -- each cell
    have hcl : ∀ i j, i < cap → j < c → (∃ y, (f i).2[j]? = some y ∧ w.cell? ((a.add (i * c)).add j) = some y) := fun i j hi hj => by
      obtain ⟨k1, _, k3, k4⟩ := hf i hi
      have hl : (f i).2.length = c := by rw [k4.1, k3]
      unfold World.cells? at k1
      rw [if_pos (Nat.zero_le _)] at k1
      have hm := mapM_at k1 j (by simpa using hj)
      rw [List.getElem?_range hj] at hm
      simp only [Option.bind_some] at hm
      exact ⟨(f i).2[j]'(by omega), by simp [hl, hj], by rw [hm]; simp [hl, hj]⟩
    obtain ⟨y0, _, hy0⟩ := hcl 0 0 h0 hc
    have ha : a.spot = none := by
      have := (cell_heap hy0).1
      simpa [Addr.add] using this
    obtain ⟨cs, T, fr, hb, _⟩ := (cell_heap hy0).2
    have hb' : w.heap[a.block]? = some (.cells cs T fr) := by simpa [Addr.add] using hb
    have hcs : ∀ i j, i < cap → j < c → ∃ y, (f i).2[j]? = some y ∧ cs[a.off + i * c + j]? = some y := fun i j hi hj => by
      obtain ⟨y, k1, k2⟩ := hcl i j hi hj
      rw [add_eq ha, add_eq rfl] at k2
      obtain ⟨_, cs', T', fr', hb2, hc2⟩ := cell_heap k2
      simp only at hb2 hc2
      rw [hb'] at hb2
      cases hb2
      exact ⟨y, k1, hc2⟩
    refine ⟨(List.range len).map fun i => (f i).1, fun x hx => ?_, by simp; omega, ?_⟩
    · obtain ⟨i, hi, rfl⟩ := List.mem_map.1 hx
      exact (hf i (by have := List.mem_range.1 hi; omega)).2.1
    · obtain ⟨blk, off, sp⟩ := a
      simp at ha; subst ha
      have hget : ∀ (i : Nat) (x : List SV), (((List.range len).map fun i => (f i).1).map g)[i]? = some x → i < len ∧ x = g (f i).1 := fun i x hx => by
        have hi : i < len := by have := (List.getElem?_eq_some_iff.1 hx).1; simpa using this
        simp [hi] at hx
        exact ⟨hi, hx.symm⟩
      have := Rep.slc (w := w) (A := nob) [] c (((List.range len).map fun i => (f i).1).map g) blk off cap (fun k => (cs[k]?).getD undef) ⟨⟨cs, T, fr, hb', fun i x j hx hj => ?_⟩, fun h => h, fun i x hx => ?_⟩ (by simpa using h1) fun i x j cc hx hcc => ?_
      · simpa using this
      · obtain ⟨hi, rfl⟩ := hget i x hx
        obtain ⟨y, _, k2⟩ := hcs i j (by omega) hj
        simp only at k2
        simp [k2]
      · obtain ⟨hi, rfl⟩ := hget i x hx
        exact (hf i (by omega)).2.2.1
      · obtain ⟨hi, rfl⟩ := hget i x hx
        have hj : j < c := by rw [← (hf i (by omega)).2.2.1]; exact (List.getElem?_eq_some_iff.1 hcc).1
        obtain ⟨y, k1, k2⟩ := hcs i j (by omega) hj
        simp only at k2
        rw [k2]
        exact (hf i (by omega)).2.2.2.2 j cc y hcc k1

end Go.Proofs.Ytefciekodhpefaa
