/- What an argument that can be read is: its shape, by its type. -/
import Derived.ProofKit
import Derived.OpenShut
import Derived.ChangeOld
import Derived.Below
namespace Go.Proofs.Ytefciekodhpefaa
open Go.RowKit

/-- The cells of a value of type t: n bounds the depth. -/
def Opened (P : Program) (w : World) : Nat → TypeId → List Value → Prop
  | 0, _, _ => False
  | n + 1, t, cs =>
    match P.underlying t with
    | some .bool => ∃ b, cs = [.bool b]
    | some (.int k) => ∃ x, cs = [.int k x] ∧ (Lit.int k x).wf = true
    | some .string => ∃ s, cs = [.string s] ∧ s.size ≤ maxLen
    | some (.slice e) => cs = [.slice none 0 0] ∨ ∃ a len cap, cs = [.slice (some a) len cap] ∧ len ≤ cap ∧ cap ≤ maxLen ∧
        ∀ i, i < cap → ∃ xs, w.cells? 0 (a.add (i * P.cellsOf e)) (P.cellsOf e) = some xs ∧ Opened P w n e xs
    | some (.struct fs) => cs.length = P.cellsOf t ∧ ∀ f ∈ fs.toList, Opened P w n f.type ((cs.drop f.offset).take (P.cellsOf f.type))
    | some (.array m e) => cs.length = P.cellsOf t ∧ ∀ i, i < m → Opened P w n e ((cs.drop (i * P.cellsOf e)).take (P.cellsOf e))
    | _ => True

theorem opened_mapM {α β : Type} {f : α → Option β} : ∀ {l : List α} {ys : List β}, l.mapM f = some ys → ∀ a ∈ l, ∃ y, f a = some y
  | [], _, _, a, h => by cases h
  | b :: l, ys, h, a, ha => by
    simp only [List.mapM_cons, Option.bind_eq_bind, Option.bind_eq_some_iff, Option.pure_def] at h
    obtain ⟨y, hy, zs, hz, _⟩ := h
    rcases List.mem_cons.1 ha with rfl | ha
    · exact ⟨y, hy⟩
    · exact opened_mapM hz a ha

theorem opened_of_trod {H : Type} {enc : TypeId × Value → H} {P : Program} {w : World} {held : Bool} : ∀ (n : Nat) (t : TypeId) (cs : List Value) (x : DataW H × List MemPlace),
    DataW.trod enc P w 0 (fun _ => true) held n t cs = some x → Opened P w n t cs
  | 0, t, cs, x, h => by simp [DataW.trod] at h
  | n + 1, t, cs, x, h => by
    unfold DataW.trod at h
    unfold Opened
    cases hu : P.underlying t with
    | none => trivial
    | some d =>
      rw [hu] at h
      cases d with
      | bool => 
        simp only at h ⊢
        split at h <;> simp_all
      | int k =>
        simp only at h ⊢
        split at h <;> simp_all
      | string =>
        simp only at h ⊢
        split at h <;> simp_all
      | slice e =>
        simp only at h ⊢
        split at h
        all_goals try (simp_all; done)
        rename_i e' a len cap heq
        obtain rfl := TypeDesc.slice.inj (Option.some.inj heq)
        right
        split at h
        · rename_i hc
          refine ⟨_, _, _, rfl, hc.2.1, hc.2.2, fun i hi => ?_⟩
          simp only [Option.bind_eq_some_iff, Option.map_eq_some_iff, if_true] at h
          obtain ⟨es, he, rs, hr, _⟩ := h
          by_cases hil : i < len
          · obtain ⟨y, hy⟩ := opened_mapM he i (List.mem_range.2 hil)
            obtain ⟨xs, hx, hy⟩ := Option.bind_eq_some_iff.1 hy
            exact ⟨xs, hx, opened_of_trod n _ _ _ hy⟩
          · obtain ⟨y, hy⟩ := opened_mapM hr (i - len) (List.mem_range.2 (by omega))
            obtain ⟨xs, hx, hy⟩ := Option.bind_eq_some_iff.1 hy
            rw [show len + (i - len) = i by omega] at hx
            exact ⟨xs, hx, opened_of_trod n _ _ _ hy⟩
        · cases h
      | struct fs =>
        simp only at h ⊢
        split at h
        · rename_i hl
          simp only [Option.map_eq_some_iff] at h
          obtain ⟨ys, hy, _⟩ := h
          refine ⟨hl, fun f hf => ?_⟩
          obtain ⟨y, hy⟩ := opened_mapM hy f hf
          exact opened_of_trod n _ _ _ hy
        · cases h
      | array m e =>
        simp only at h ⊢
        split at h
        · rename_i hl
          simp only [Option.map_eq_some_iff] at h
          obtain ⟨ys, hy, _⟩ := h
          refine ⟨hl, fun i hi => ?_⟩
          obtain ⟨y, hy⟩ := opened_mapM hy i (List.mem_range.2 hi)
          exact opened_of_trod n _ _ _ hy
        · cases h
      | _ => trivial

theorem opened_val {H : Type} {enc : TypeId × Value → H} {P : Program} {w : World} {held : Bool} {t : TypeId} {v : Value} {d : DataW H} {p : List MemPlace}
    (h : DataW.Trod enc P w 0 (fun _ => true) held t v d p) : ∃ n, Opened P w n t v.cells.toList := by
  obtain ⟨n, hn⟩ := h
  exact ⟨n, opened_of_trod n _ _ _ hn⟩
theorem cells_agg {cs : Array Value} {l : List Value} (h : (Value.agg cs).cells.toList = l) : Value.agg cs = .agg l.toArray := by
  have : cs.toList = l := h
  rw [← this]
theorem i64_of_wf {x : Int} (h : (Lit.int .i64 x).wf = true) : -9223372036854775808 ≤ x ∧ x ≤ 9223372036854775807 := by
  simp [Lit.wf, IntKind.min, IntKind.max, IntKind.signed, IntKind.bits] at h; omega
theorem u64_of_wf {x : Int} (h : (Lit.int .u64 x).wf = true) : 0 ≤ x ∧ x ≤ 18446744073709551615 := by
  simp [Lit.wf, IntKind.min, IntKind.max, IntKind.signed, IntKind.bits] at h; omega
theorem u8_of_wf {x : Int} (h : (Lit.int .u8 x).wf = true) : 0 ≤ x ∧ x ≤ 255 := by
  simp [Lit.wf, IntKind.min, IntKind.max, IntKind.signed, IntKind.bits] at h; omega
theorem u16_of_wf {x : Int} (h : (Lit.int .u16 x).wf = true) : 0 ≤ x ∧ x ≤ 65535 := by
  simp [Lit.wf, IntKind.min, IntKind.max, IntKind.signed, IntKind.bits] at h; omega
theorem opened_int {P : Program} {w : World} {n : Nat} {t : TypeId} {k : IntKind} {cs : List Value} (hu : P.underlying t = some (.int k)) (h : Opened P w n t cs) : ∃ x, cs = [.int k x] ∧ (Lit.int k x).wf = true := by
  cases n with
  | zero => exact h.elim
  | succ n => unfold Opened at h; rw [hu] at h; exact h
theorem opened_bool {P : Program} {w : World} {n : Nat} {t : TypeId} {cs : List Value} (hu : P.underlying t = some .bool) (h : Opened P w n t cs) : ∃ b, cs = [.bool b] := by
  cases n with
  | zero => exact h.elim
  | succ n => unfold Opened at h; rw [hu] at h; exact h
theorem opened_struct {P : Program} {w : World} {n : Nat} {t : TypeId} {fs : Array Field} {cs : List Value} (hu : P.underlying t = some (.struct fs)) (h : Opened P w n t cs) :
    cs.length = P.cellsOf t ∧ ∃ m, ∀ f ∈ fs.toList, Opened P w m f.type ((cs.drop f.offset).take (P.cellsOf f.type)) := by
  cases n with
  | zero => exact h.elim
  | succ n => unfold Opened at h; rw [hu] at h; exact ⟨h.1, n, h.2⟩
theorem opened_array {P : Program} {w : World} {n : Nat} {t : TypeId} {m : Nat} {e : TypeId} {cs : List Value} (hu : P.underlying t = some (.array m e)) (h : Opened P w n t cs) :
    cs.length = P.cellsOf t ∧ ∃ k, ∀ i, i < m → Opened P w k e ((cs.drop (i * P.cellsOf e)).take (P.cellsOf e)) := by
  cases n with
  | zero => exact h.elim
  | succ n => unfold Opened at h; rw [hu] at h; exact ⟨h.1, n, h.2⟩
theorem opened_slice {P : Program} {w : World} {n : Nat} {t : TypeId} {e : TypeId} {cs : List Value} (hu : P.underlying t = some (.slice e)) (h : Opened P w n t cs) :
    cs = [.slice none 0 0] ∨ ∃ a len cap, cs = [.slice (some a) len cap] ∧ len ≤ cap ∧ cap ≤ maxLen ∧ ∃ m, ∀ i, i < cap → ∃ xs, w.cells? 0 (a.add (i * P.cellsOf e)) (P.cellsOf e) = some xs ∧ Opened P w m e xs := by
  cases n with
  | zero => exact h.elim
  | succ n =>
    unfold Opened at h
    rw [hu] at h
    rcases h with h | ⟨a, len, cap, h1, h2, h3, h4⟩
    · exact .inl h
    · exact .inr ⟨a, len, cap, h1, h2, h3, n, h4⟩
theorem agg_of {P : Program} {t : TypeId} {v : Value} {l : List Value} (hv : ∃ cs, v = .agg cs ∧ cs.size = P.cellsOf t) (hl : v.cells.toList = l) : v = .agg l.toArray := by
  obtain ⟨cs, rfl, _⟩ := hv
  exact cells_agg hl
end Go.Proofs.Ytefciekodhpefaa
