/- Sets of places: of some places; parts. -/
import Derived.Test.YtefciekodhpefaaFf
namespace Go.Proofs.Ytefciekodhpefaa
open Go.RowKit
attribute [local irreducible] FS FO IT HS

/-- Numbers. -/
def zs (l : List Int) : List (List SV) := l.map fun x => [.int .i64 x]
def Z (l : List Int) : SV := .slc 1 (zs l)
theorem zs_len (l : List Int) : (zs l).length = l.length := by simp [zs]
theorem zs_get {l : List Int} {k : Nat} {x : List SV} (h : (zs l)[k]? = some x) : ∃ v : Int, l[k]? = some v ∧ x = [.int .i64 v] := by
  rw [zs, List.getElem?_map, Option.map_eq_some_iff] at h
  obtain ⟨v, h1, rfl⟩ := h
  exact ⟨v, h1, rfl⟩
theorem I_eq (l : List Nat) : I l = Z (l.map fun (b : Nat) => (b : Int)) := by simp [I, Z, ints, zs, Function.comp_def]

/-- A set with a place. -/
def put1 (ws : List Nat) (i : Int) : List Nat := turn ws i (· ||| ·)
theorem put1_len (ws : List Nat) (i : Int) : (put1 ws i).length = ws.length := turn_length ws i _
theorem put1_wd {ws : List Nat} (h : Wd ws) (i : Int) : Wd (put1 ws i) := by
  unfold put1 turn
  split
  · intro x hx
    rcases List.mem_or_eq_of_mem_set hx with hx | rfl
    · exact h x hx
    · exact or_lt (getD_lt h _) (pow_lt64 (Nat.mod_lt _ (by omega)))
  · exact h
def puts (p : Int → Option Int) (ws : List Nat) (l : List Int) : List Nat := l.foldl (fun ws i => match p i with | some j => put1 ws j | none => ws) ws
theorem puts_len (p : Int → Option Int) : ∀ (l : List Int) (ws : List Nat), (puts p ws l).length = ws.length
  | [], ws => rfl
  | i :: l, ws => by
    have := puts_len p l (match p i with | some j => put1 ws j | none => ws)
    simp only [puts, List.foldl_cons] at this ⊢
    rw [this]; split <;> simp [put1_len]
theorem puts_wd (p : Int → Option Int) : ∀ (l : List Int) (ws : List Nat), Wd ws → Wd (puts p ws l)
  | [], ws, h => h
  | i :: l, ws, h => by
    have := puts_wd p l (match p i with | some j => put1 ws j | none => ws) (by split <;> first | exact h | exact put1_wd h _)
    simpa only [puts, List.foldl_cons] using this
theorem puts_take (p : Int → Option Int) (ws : List Nat) {l : List Int} {k : Nat} {x : Int} (h : l[k]? = some x) : puts p ws (l.take (k + 1)) = match p x with | some j => put1 (puts p ws (l.take k)) j | none => puts p ws (l.take k) := by
  rw [List.take_add_one, h]
  simp [puts, List.foldl_append]

theorem wd_zero (n : Nat) : Wd (List.replicate n 0) := fun x hx => by simp at hx; omega

theorem or_place {W : List Nat} (hw : Wd W) {v : Int} (h : inW W v = true) : (uw W).set (0 + (v / 2 ^ (min (6 : Int).toNat IntKind.i64.bits)).toNat) [.int .u64 (bOr .u64 ((W.getD (0 + (v / 2 ^ (min (6 : Int).toNat IntKind.i64.bits)).toNat) 0 : Nat) : Int) ((2 ^ (v.toNat % 64) : Nat) : Int))] = uw (put1 W v) := by
  have e6 : v / 2 ^ (min (6 : Int).toNat IntKind.i64.bits) = v / 64 := rfl
  rw [e6, Nat.zero_add, bOr_u64 (getD_lt hw _) (pow_lt64 (Nat.mod_lt _ (by omega))), uw_set, put1, turn, if_pos h]

/-- A set of some places. -/
def ofN (n : Int) (l : List Int) : List Nat := puts (fun i => if i < n then some i else none) (List.replicate (wordsI n) 0) l

def ir_flags_Of : IR :=
(.seq
 (.reg (⟨(some 4), .mv (.c (.nils)), none⟩ ::
   []))
 (.seq
  (.reg (⟨(some 8), .mv (.t 0), none⟩ ::
    ⟨(some 9), .call (.c (.fn 13 [])) [(.t 8)], none⟩ ::
    ⟨(some 5), .mv (.t 9), none⟩ ::
    []))
  (.seq
   (.seq
    (.reg (⟨(some 10), .mv (.t 1), none⟩ ::
      ⟨(some 11), .ln (.t 10), none⟩ ::
      ⟨(some 12), .mv (.c (.int .i64 0)), none⟩ ::
      []))
    (.block 0
     (.loop
      (.seq
       (.reg (⟨(some 13), .bin .lss (.t 12) (.t 11), none⟩ ::
         []))
       (.seq
        (.cond (.t 13)
         .skip
         (.exit 0))
        (.seq
         (.block 1
          (.seq
           (.reg (⟨(some 14), .ia 1 (.t 10) (.t 12), none⟩ ::
             ⟨(some 15), .ld 1 false (.t 14), none⟩ ::
             ⟨(some 7), .mv (.t 15), none⟩ ::
             []))
           (.seq
            (.reg (⟨(some 16), .mv (.t 7), none⟩ ::
              ⟨(some 17), .mv (.t 0), none⟩ ::
              ⟨(some 18), .bin .lss (.t 16) (.t 17), none⟩ ::
              ⟨(some 19), .mv (.t 18), none⟩ ::
              ⟨(some 20), .mv (.t 5), some (19, true)⟩ ::
              ⟨(some 21), .mv (.t 7), some (19, true)⟩ ::
              ⟨(some 22), .call (.c (.fn 49 [])) [(.t 20), (.t 21)], some (19, true)⟩ ::
              ⟨(some 23), .pick (.t 19) (.t 22) (.c (.bool false)), none⟩ ::
              []))
            (.cond (.t 23)
             (.draw (⟨(some 24), .mv (.t 5), none⟩ ::
               ⟨(some 25), .mv (.t 7), none⟩ ::
               ⟨(some 26), .bin .shr (.t 25) (.c (.int .u64 6)), none⟩ ::
               ⟨(some 27), .ia 1 (.t 24) (.t 26), none⟩ ::
               ⟨(some 28), .ld 1 false (.t 27), none⟩ ::
               ⟨(some 29), .mv (.t 7), none⟩ ::
               ⟨(some 30), .call (.c (.fn 50 [])) [(.t 29)], none⟩ ::
               ⟨(some 31), .bin .or (.t 28) (.t 30), none⟩ ::
               ⟨(some 32), .ia 1 (.t 24) (.t 26), none⟩ ::
               [])
              (⟨none, .st 1 (.t 32) (.t 31), none⟩ ::
               []))
             .skip))))
         (.reg (⟨(some 33), .bin .add (.t 12) (.c (.int .i64 1)), none⟩ ::
           ⟨(some 12), .mv (.t 33), none⟩ ::
           []))))))))
   (.seq
    (.reg (⟨(some 34), .mv (.t 5), none⟩ ::
      ⟨(some 4), .mv (.t 34), none⟩ ::
      []))
    .ret))))
theorem cd_flags_Of : Code1 Try.prog 15 35 ir_flags_Of [.t 4] := ⟨Try.call15, _, _, Try.func15, rfl, by kernel_rfl, by kernel_rfl, by kernel_rfl, by kernel_rfl⟩

theorem fs_Of (n : Int) (h0 : -9223372036854775808 ≤ n) (h1 : n ≤ 9223372036854775807) (l : List Int) (hl : l.length ≤ 1000000000) (hlb : ∀ x ∈ l, -9223372036854775808 ≤ x ∧ x ≤ 9223372036854775807) : FS Try.prog 15 [.int .i64 n, Z l] (U (ofN n l)) := by
  refine fs_of_cvc mixed cd_flags_Of (by simp) ?_
  have hwl : wordsI n ≤ 64 := by unfold wordsI; omega
  repeat' (conv => whnf); first
    | ((refine fun x hx => ?_); (obtain ⟨v, hv, rfl⟩ := U_get hx))
    | ((refine And.intro rfl (And.intro (by simp only [U_len, tab_len, List.length_set]; omega) ?_)))
    | (refine Br.tt ?_)
    | (refine Br.ff ?_)
    | (refine Br.dec (fun h => ?_) (fun h => ?_)) <;> try (exfalso; omega)
    | (refine Br.neg ?_)
    | (refine Br.mk (fun h => ?_) (fun h => ?_))
    | (refine And.intro rfl ?_)
    | (refine And.intro (by omega) ?_)
    | (refine ⟨_, Or.inl ⟨⟨by omega, by omega⟩, rfl⟩, ?_⟩)
    | (refine And.intro (by simp only [List.length_map, List.length_replicate, List.length_set, List.length_append, List.length_take, List.length_drop, List.length_cons, List.length_nil, U_len, tab_len, ints_len, zs_len]; first | done | omega) ?_)
    | (refine And.intro (Nat.le_refl _) ?_)
    | fail
  refine Or.inr (Or.inl ⟨rfl, _, _, fo_New n h0 h1, ?_⟩)
  repeat' (conv => whnf); first
    | ((refine fun x hx => ?_); (obtain ⟨v, hv, rfl⟩ := U_get hx))
    | ((refine And.intro rfl (And.intro (by simp only [U_len, tab_len, List.length_set]; omega) ?_)))
    | (refine Br.tt ?_)
    | (refine Br.ff ?_)
    | (refine Br.dec (fun h => ?_) (fun h => ?_)) <;> try (exfalso; omega)
    | (refine Br.neg ?_)
    | (refine Br.mk (fun h => ?_) (fun h => ?_))
    | (refine And.intro rfl ?_)
    | (refine And.intro (by omega) ?_)
    | (refine ⟨_, Or.inl ⟨⟨by omega, by omega⟩, rfl⟩, ?_⟩)
    | (refine And.intro (by simp only [List.length_map, List.length_replicate, List.length_set, List.length_append, List.length_take, List.length_drop, List.length_cons, List.length_nil, U_len, tab_len, ints_len, zs_len]; first | done | omega) ?_)
    | (refine And.intro (Nat.le_refl _) ?_)
    | fail
  refine ⟨Nat, fun k => k ≤ l.length, fun k => [(0, .int .i64 n), (5, .osl 0 1 0 (wordsI n)), (10, Z l), (11, .int .i64 l.length), (12, .int .i64 (k : Int))], fun k => [.arr 1 (uw (ofN n (l.take k)))], fun _ => none, fun k => l.length - k, ⟨0, by omega, ⟨rfl, rfl, rfl, ?_, rfl, trivial⟩, ⟨rfl, trivial⟩, rfl⟩, fun k hk => ?_⟩
  · show SV.int .i64 ((zs l).length : Int) = _
    rw [zs_len]
  have hk' : k ≤ l.length := hk
  obtain ⟨W, hW⟩ : ∃ W, W = ofN n (l.take k) := ⟨_, rfl⟩
  have hlen : W.length = wordsI n := by rw [hW, ofN, puts_len]; simp
  have hwd : Wd W := by rw [hW, ofN]; exact puts_wd _ _ _ (wd_zero _)
  have next : ∀ v, l[k]? = some v → ofN n (l.take (k + 1)) = if v < n then put1 W v else W := fun v hv => by
    rw [ofN, puts_take _ _ hv, hW, ofN]
    by_cases h : v < n
    · rw [if_pos h, if_pos h]
    · rw [if_neg h, if_neg h]
  repeat' (conv => whnf); first
    | ((refine fun x hx => ?_); (obtain ⟨v, hv, rfl⟩ := zs_get hx))
    | ((refine fun x hx => ?_); (obtain ⟨v, hv, rfl⟩ := U_get hx))
    | ((refine And.intro rfl (And.intro (by simp only [U_len, tab_len, List.length_set]; omega) ?_)))
    | (refine Br.tt ?_)
    | (refine Br.ff ?_)
    | (refine Br.dec (fun h => ?_) (fun h => ?_)) <;> try (exfalso; omega)
    | (refine Br.neg ?_)
    | (refine Br.mk (fun h => ?_) (fun h => ?_))
    | (refine And.intro rfl ?_)
    | (refine And.intro (by omega) ?_)
    | (refine ⟨_, Or.inl ⟨⟨by omega, by omega⟩, rfl⟩, ?_⟩)
    | (refine And.intro (by simp only [List.length_map, List.length_replicate, List.length_set, List.length_append, List.length_take, List.length_drop, List.length_cons, List.length_nil, U_len, tab_len, ints_len, zs_len]; first | done | omega) ?_)
    | (refine And.intro (Nat.le_refl _) ?_)
    | fail
  · refine Or.inr (Or.inr (Or.inl ⟨rfl, ?_, _, fs_le (fs_within W v) ⟨?_, rfl, trivial⟩, rfl, ?_⟩))
    · show 0 + wordsI n ≤ (uw (ofN n (l.take k))).length
      rw [← hW, U_len]; omega
    · show SV.slc 1 (((uw (ofN n (l.take k))).drop 0).take (wordsI n)) = U W
      rw [← hW, frz_U hlen.symm]
    obtain ⟨hb1, hb2⟩ := hlb v (List.mem_of_getElem? hv)
    refine ⟨fun hin => ?_, fun hin => ?_⟩
    · have hv0 : 0 ≤ v := by simp [inW] at hin; exact hin.1
      have hv1 : v / 64 < wordsI n := by rw [← hlen]; simp [inW] at hin; exact hin.2
      have e6 : v / 2 ^ (min (6 : Int).toNat IntKind.i64.bits) = v / 64 := rfl
      repeat' (conv => whnf); first
        | ((refine fun x hx => ?_); (obtain ⟨v, hv, rfl⟩ := U_get hx))
        | ((refine And.intro rfl (And.intro (by simp only [U_len, tab_len, List.length_set]; omega) ?_)))
        | (refine Br.tt ?_)
        | (refine Br.ff ?_)
        | (refine Br.dec (fun h => ?_) (fun h => ?_)) <;> try (exfalso; omega)
        | (refine Br.neg ?_)
        | (refine Br.mk (fun h => ?_) (fun h => ?_))
        | (refine And.intro rfl ?_)
        | (refine And.intro (by omega) ?_)
        | (refine ⟨_, Or.inl ⟨⟨by omega, by omega⟩, rfl⟩, ?_⟩)
        | (refine And.intro (by simp only [List.length_map, List.length_replicate, List.length_set, List.length_append, List.length_take, List.length_drop, List.length_cons, List.length_nil, U_len, tab_len, ints_len, zs_len]; first | done | omega) ?_)
        | (refine And.intro (Nat.le_refl _) ?_)
        | fail
      refine ⟨_, uw_at (by rw [← hW]; omega), ?_⟩
      repeat' (conv => whnf); first
        | ((refine fun x hx => ?_); (obtain ⟨v, hv, rfl⟩ := U_get hx))
        | ((refine And.intro rfl (And.intro (by simp only [U_len, tab_len, List.length_set]; omega) ?_)))
        | (refine Br.tt ?_)
        | (refine Br.ff ?_)
        | (refine Br.dec (fun h => ?_) (fun h => ?_)) <;> try (exfalso; omega)
        | (refine Br.neg ?_)
        | (refine Br.mk (fun h => ?_) (fun h => ?_))
        | (refine And.intro rfl ?_)
        | (refine And.intro (by omega) ?_)
        | (refine ⟨_, Or.inl ⟨⟨by omega, by omega⟩, rfl⟩, ?_⟩)
        | (refine And.intro (by simp only [List.length_map, List.length_replicate, List.length_set, List.length_append, List.length_take, List.length_drop, List.length_cons, List.length_nil, U_len, tab_len, ints_len, zs_len]; first | done | omega) ?_)
        | (refine And.intro (Nat.le_refl _) ?_)
        | fail
      refine Or.inl ⟨rfl, _, fs_bit v hv0 hb2, ?_⟩
      repeat' (conv => whnf); first
        | ((refine And.intro rfl (And.intro (by omega) (And.intro (by omega) ?_))))
        | ((refine fun x hx => ?_); (obtain ⟨v, hv, rfl⟩ := U_get hx))
        | ((refine And.intro rfl (And.intro (by simp only [U_len, tab_len, List.length_set]; omega) ?_)))
        | (refine Br.tt ?_)
        | (refine Br.ff ?_)
        | (refine Br.dec (fun h => ?_) (fun h => ?_)) <;> try (exfalso; omega)
        | (refine Br.neg ?_)
        | (refine Br.mk (fun h => ?_) (fun h => ?_))
        | (refine And.intro rfl ?_)
        | (refine And.intro (by omega) ?_)
        | (refine ⟨_, Or.inl ⟨⟨by omega, by omega⟩, rfl⟩, ?_⟩)
        | (refine And.intro (by simp only [List.length_map, List.length_replicate, List.length_set, List.length_append, List.length_take, List.length_drop, List.length_cons, List.length_nil, U_len, tab_len, ints_len, zs_len]; first | done | omega) ?_)
        | (refine And.intro (Nat.le_refl _) ?_)
        | fail
      refine ⟨_, uw_at (by rw [← hW]; omega), ?_⟩
      repeat' (conv => whnf); first
        | ((refine fun x hx => ?_); (obtain ⟨v, hv, rfl⟩ := U_get hx))
        | ((refine And.intro rfl (And.intro (by simp only [U_len, tab_len, List.length_set]; omega) ?_)))
        | (refine Br.tt ?_)
        | (refine Br.ff ?_)
        | (refine Br.dec (fun h => ?_) (fun h => ?_)) <;> try (exfalso; omega)
        | (refine Br.neg ?_)
        | (refine Br.mk (fun h => ?_) (fun h => ?_))
        | (refine And.intro rfl ?_)
        | (refine And.intro (by omega) ?_)
        | (refine ⟨_, Or.inl ⟨⟨by omega, by omega⟩, rfl⟩, ?_⟩)
        | (refine And.intro (by simp only [List.length_map, List.length_replicate, List.length_set, List.length_append, List.length_take, List.length_drop, List.length_cons, List.length_nil, U_len, tab_len, ints_len, zs_len]; first | done | omega) ?_)
        | (refine And.intro (Nat.le_refl _) ?_)
        | fail
      refine ⟨k + 1, (show k + 1 ≤ l.length by omega), (show l.length - (k + 1) < l.length - k by omega), ⟨rfl, rfl, rfl, rfl, rfl, trivial⟩, ⟨?_, trivial⟩, rfl⟩
      show Blk.arr 1 _ = Blk.arr 1 (uw (ofN n (l.take (k + 1))))
      rw [next v hv, if_pos h, ← or_place hwd hin, hW]
      rfl
    · repeat' (conv => whnf); first
        | ((refine fun x hx => ?_); (obtain ⟨v, hv, rfl⟩ := U_get hx))
        | ((refine And.intro rfl (And.intro (by simp only [U_len, tab_len, List.length_set]; omega) ?_)))
        | (refine Br.tt ?_)
        | (refine Br.ff ?_)
        | (refine Br.dec (fun h => ?_) (fun h => ?_)) <;> try (exfalso; omega)
        | (refine Br.neg ?_)
        | (refine Br.mk (fun h => ?_) (fun h => ?_))
        | (refine And.intro rfl ?_)
        | (refine And.intro (by omega) ?_)
        | (refine ⟨_, Or.inl ⟨⟨by omega, by omega⟩, rfl⟩, ?_⟩)
        | (refine And.intro (by simp only [List.length_map, List.length_replicate, List.length_set, List.length_append, List.length_take, List.length_drop, List.length_cons, List.length_nil, U_len, tab_len, ints_len, zs_len]; first | done | omega) ?_)
        | (refine And.intro (Nat.le_refl _) ?_)
        | fail
      refine ⟨k + 1, (show k + 1 ≤ l.length by omega), (show l.length - (k + 1) < l.length - k by omega), ⟨rfl, rfl, rfl, rfl, rfl, trivial⟩, ⟨?_, trivial⟩, rfl⟩
      show Blk.arr 1 (uw (ofN n (l.take k))) = Blk.arr 1 (uw (ofN n (l.take (k + 1))))
      rw [next v hv, if_pos h, ← hW]
      simp [put1, turn, hin]
  · repeat' (conv => whnf); first
      | ((refine fun x hx => ?_); (obtain ⟨v, hv, rfl⟩ := U_get hx))
      | ((refine And.intro rfl (And.intro (by simp only [U_len, tab_len, List.length_set]; omega) ?_)))
      | (refine Br.tt ?_)
      | (refine Br.ff ?_)
      | (refine Br.dec (fun h => ?_) (fun h => ?_)) <;> try (exfalso; omega)
      | (refine Br.neg ?_)
      | (refine Br.mk (fun h => ?_) (fun h => ?_))
      | (refine And.intro rfl ?_)
      | (refine And.intro (by omega) ?_)
      | (refine ⟨_, Or.inl ⟨⟨by omega, by omega⟩, rfl⟩, ?_⟩)
      | (refine And.intro (by simp only [List.length_map, List.length_replicate, List.length_set, List.length_append, List.length_take, List.length_drop, List.length_cons, List.length_nil, U_len, tab_len, ints_len, zs_len]; first | done | omega) ?_)
      | (refine And.intro (Nat.le_refl _) ?_)
      | fail
    refine ⟨k + 1, (show k + 1 ≤ l.length by omega), (show l.length - (k + 1) < l.length - k by omega), ⟨rfl, rfl, rfl, rfl, rfl, trivial⟩, ⟨?_, trivial⟩, rfl⟩
    show Blk.arr 1 (uw (ofN n (l.take k))) = Blk.arr 1 (uw (ofN n (l.take (k + 1))))
    rw [next v hv, if_neg h, ← hW]
  · have hkl : k = l.length := by omega
    refine ⟨?_, ?_⟩
    · show 0 + wordsI n ≤ (uw (ofN n (l.take k))).length
      rw [← hW, U_len]; omega
    show SV.slc 1 (((uw (ofN n (l.take k))).drop 0).take (wordsI n)) = U (ofN n l)
    rw [← hW, frz_U hlen.symm, hW, hkl, List.take_length]

/-- Those from a place on, up to another one. -/
def partN (ws : List Nat) (a b : Int) : List Nat :=
  puts (fun i => if a ≤ i ∧ i < b then some (i - a) else none) (List.replicate (wordsI (b - a)) 0) ((bits ws).map fun (i : Nat) => (i : Int))

def ir_flags_Part : IR :=
(.seq
 (.reg (⟨(some 4), .bx (.t 1), none⟩ ::
   ⟨(some 5), .bx (.t 2), none⟩ ::
   ⟨(some 6), .mv (.c (.nils)), none⟩ ::
   []))
 (.seq
  (.reg (⟨(some 9), .ld 1 false (.t 4), none⟩ ::
    ⟨(some 10), .mm true [(.t 9), (.c (.int .i64 0))], none⟩ ::
    ⟨none, .st 1 (.t 4) (.t 10), none⟩ ::
    []))
  (.seq
   (.seq
    (.reg (⟨(some 11), .ld 1 false (.t 5), none⟩ ::
      ⟨(some 12), .ld 1 false (.t 4), none⟩ ::
      ⟨(some 13), .bin .leq (.t 11) (.t 12), none⟩ ::
      []))
    (.cond (.t 13)
     (.seq
      (.reg (⟨(some 6), .mv (.c (.nils)), none⟩ ::
        []))
      .ret)
     .skip))
   (.seq
    (.reg (⟨(some 14), .ld 1 false (.t 5), none⟩ ::
      ⟨(some 15), .ld 1 false (.t 4), none⟩ ::
      ⟨(some 16), .bin .sub (.t 14) (.t 15), none⟩ ::
      ⟨(some 17), .call (.c (.fn 13 [])) [(.t 16)], none⟩ ::
      ⟨(some 7), .al [.nils], none⟩ ::
      ⟨none, .st 1 (.t 7) (.t 17), none⟩ ::
      []))
    (.seq
     (.seq
      (.reg (⟨(some 18), .mv (.t 0), none⟩ ::
        ⟨(some 19), .call (.c (.fn 54 [])) [(.t 18)], none⟩ ::
        []))
      (.block 0
       (.rng (.t 19) [20]
        (.reg (⟨(some 8), .mv (.t 20), none⟩ ::
          []))
        (.block 1
         (.seq
          (.reg (⟨(some 21), .mv (.t 8), none⟩ ::
            ⟨(some 22), .ld 1 false (.t 4), none⟩ ::
            ⟨(some 23), .bin .geq (.t 21) (.t 22), none⟩ ::
            ⟨(some 24), .mv (.t 23), none⟩ ::
            ⟨(some 25), .mv (.t 8), some (24, true)⟩ ::
            ⟨(some 26), .ld 1 false (.t 5), some (24, true)⟩ ::
            ⟨(some 27), .bin .lss (.t 25) (.t 26), some (24, true)⟩ ::
            ⟨(some 28), .pick (.t 24) (.t 27) (.c (.bool false)), none⟩ ::
            ⟨(some 29), .mv (.t 28), none⟩ ::
            ⟨(some 30), .ld 1 false (.t 7), some (29, true)⟩ ::
            ⟨(some 31), .mv (.t 8), some (29, true)⟩ ::
            ⟨(some 32), .ld 1 false (.t 4), some (29, true)⟩ ::
            ⟨(some 33), .bin .sub (.t 31) (.t 32), some (29, true)⟩ ::
            ⟨(some 34), .call (.c (.fn 49 [])) [(.t 30), (.t 33)], some (29, true)⟩ ::
            ⟨(some 35), .pick (.t 29) (.t 34) (.c (.bool false)), none⟩ ::
            []))
          (.cond (.t 35)
           (.draw (⟨(some 36), .ld 1 false (.t 7), none⟩ ::
             ⟨(some 37), .mv (.t 8), none⟩ ::
             ⟨(some 38), .ld 1 false (.t 4), none⟩ ::
             ⟨(some 39), .bin .sub (.t 37) (.t 38), none⟩ ::
             ⟨(some 40), .bin .shr (.t 39) (.c (.int .u64 6)), none⟩ ::
             ⟨(some 41), .ia 1 (.t 36) (.t 40), none⟩ ::
             ⟨(some 42), .ld 1 false (.t 41), none⟩ ::
             ⟨(some 43), .mv (.t 8), none⟩ ::
             ⟨(some 44), .ld 1 false (.t 4), none⟩ ::
             ⟨(some 45), .bin .sub (.t 43) (.t 44), none⟩ ::
             ⟨(some 46), .call (.c (.fn 50 [])) [(.t 45)], none⟩ ::
             ⟨(some 47), .bin .or (.t 42) (.t 46), none⟩ ::
             ⟨(some 48), .ia 1 (.t 36) (.t 40), none⟩ ::
             [])
            (⟨none, .st 1 (.t 48) (.t 47), none⟩ ::
             []))
           .skip))))))
     (.seq
      (.reg (⟨(some 49), .ld 1 false (.t 7), none⟩ ::
        ⟨(some 6), .mv (.t 49), none⟩ ::
        []))
      .ret))))))
theorem cd_flags_Part : Code1 Try.prog 41 50 ir_flags_Part [.t 6] := ⟨Try.call41, _, _, Try.func41, rfl, by kernel_rfl, by kernel_rfl, by kernel_rfl, by kernel_rfl⟩

set_option maxHeartbeats 1000000 in
theorem fs_Part (ws : List Nat) (hw : Wd ws) (hl : ws.length ≤ 1000000) (a b : Int) (ha0 : -9223372036854775808 ≤ a) (ha1 : a ≤ 9223372036854775807) (hb0 : -9223372036854775808 ≤ b) (hb1 : b ≤ 9223372036854775807) :
    FS Try.prog 41 [U ws, .int .i64 a, .int .i64 b] (if b ≤ max a 0 then .nils else U (partN ws (max a 0) b)) := by
  refine fs_of_cvc mixed cd_flags_Part (by simp) ?_
  repeat' (conv => whnf); first
    | ((refine fun x hx => ?_); (obtain ⟨v, hv, rfl⟩ := U_get hx))
    | ((refine And.intro rfl (And.intro (by simp only [U_len, tab_len, List.length_set]; omega) ?_)))
    | (refine Br.tt ?_)
    | (refine Br.ff ?_)
    | (refine Br.dec (fun h => ?_) (fun h => ?_)) <;> try (exfalso; omega)
    | (refine Br.neg ?_)
    | (refine Br.mk (fun h => ?_) (fun h => ?_))
    | (refine And.intro rfl ?_)
    | (refine And.intro (by omega) ?_)
    | (refine ⟨_, Or.inl ⟨⟨by omega, by omega⟩, rfl⟩, ?_⟩)
    | (refine And.intro (by simp only [List.length_map, List.length_replicate, List.length_set, List.length_append, List.length_take, List.length_drop, List.length_cons, List.length_nil, U_len, tab_len, ints_len, zs_len]; first | done | omega) ?_)
    | (refine And.intro (Nat.le_refl _) ?_)
    | fail
  · show leV 0 .nils (if b ≤ max a 0 then .nils else U (partN ws (max a 0) b))
    rw [if_pos h]; rfl
  rw [if_neg h]
  generalize hc : max a 0 = c at h ⊢
  have hc0 : 0 ≤ c := by omega
  have hcb : c < b := by omega
  generalize hn : wordsI (b - c) = n
  have hwl : n ≤ 64 := by rw [← hn]; unfold wordsI; omega
  refine Or.inr (Or.inl ⟨rfl, _, _, fo_New (b - c) (by omega) (by omega), ?_⟩)
  rw [hn]
  repeat' (conv => whnf); first
    | ((refine fun x hx => ?_); (obtain ⟨v, hv, rfl⟩ := U_get hx))
    | ((refine And.intro rfl (And.intro (by simp only [U_len, tab_len, List.length_set]; omega) ?_)))
    | (refine Br.tt ?_)
    | (refine Br.ff ?_)
    | (refine Br.dec (fun h => ?_) (fun h => ?_)) <;> try (exfalso; omega)
    | (refine Br.neg ?_)
    | (refine Br.mk (fun h => ?_) (fun h => ?_))
    | (refine And.intro rfl ?_)
    | (refine And.intro (by omega) ?_)
    | (refine ⟨_, Or.inl ⟨⟨by omega, by omega⟩, rfl⟩, ?_⟩)
    | (refine And.intro (by simp only [List.length_map, List.length_replicate, List.length_set, List.length_append, List.length_take, List.length_drop, List.length_cons, List.length_nil, U_len, tab_len, ints_len, zs_len]; first | done | omega) ?_)
    | (refine And.intro (Nat.le_refl _) ?_)
    | fail
  refine Or.inl ⟨rfl, _, fs_each ws, ?_⟩
  have hbl := bits_len ws hw
  generalize hp : (fun i => if c ≤ i ∧ i < b then some (i - c) else none) = p
  have hP : ∀ k, (puts p (List.replicate n 0) (((bits ws).map fun (i : Nat) => (i : Int)).take k)).length = n := fun k => by rw [puts_len]; simp
  have hPw : ∀ k, Wd (puts p (List.replicate n 0) (((bits ws).map fun (i : Nat) => (i : Int)).take k)) := fun k => puts_wd _ _ _ (wd_zero _)
  refine ⟨rfl, [], [], [.box [U ws] 0], [], ints (bits ws), fun k => [.vars [.int .i64 c], .vars [.int .i64 b], .arr 1 (uw (puts p (List.replicate n 0) (((bits ws).map fun (i : Nat) => (i : Int)).take k))), .vars [.osl 2 1 0 n]], fun k => True, it_each ws hw hl, rfl, rfl, rfl, rfl, List.nodup_nil, by simp, ?_, trivial, fun k x hx _ => ?_, fun _ => ?_⟩
  · exact ⟨⟨rfl, trivial⟩, ⟨rfl, trivial⟩, (show Blk.arr 1 _ = Blk.arr 1 _ from rfl), ⟨rfl, trivial⟩, trivial⟩
  · obtain ⟨i, hi, rfl⟩ := ints_get' hx
    have hi64 := ((bits_mem hw).1 (List.mem_of_getElem? hi)).1
    have hil : ((bits ws).map fun (i : Nat) => (i : Int))[k]? = some (i : Int) := by rw [List.getElem?_map, hi]; rfl
    have next := puts_take p (List.replicate n 0) hil
    generalize hW : puts p (List.replicate n 0) (((bits ws).map fun (i : Nat) => (i : Int)).take k) = W at next
    have hlen : W.length = n := by rw [← hW]; exact hP k
    have hwd : Wd W := by rw [← hW]; exact hPw k
    refine ⟨rfl, ?_⟩
    repeat' (conv => whnf); first
      | ((refine fun x hx => ?_); (obtain ⟨v, hv, rfl⟩ := U_get hx))
      | ((refine And.intro rfl (And.intro (by simp only [U_len, tab_len, List.length_set]; omega) ?_)))
      | (refine Br.tt ?_)
      | (refine Br.ff ?_)
      | (refine Br.dec (fun h => ?_) (fun h => ?_)) <;> try (exfalso; omega)
      | (refine Br.neg ?_)
      | (refine Br.mk (fun h => ?_) (fun h => ?_))
      | (refine And.intro rfl ?_)
      | (refine And.intro (by omega) ?_)
      | (refine ⟨_, Or.inl ⟨⟨by omega, by omega⟩, rfl⟩, ?_⟩)
      | (refine And.intro (by simp only [List.length_map, List.length_replicate, List.length_set, List.length_append, List.length_take, List.length_drop, List.length_cons, List.length_nil, U_len, tab_len, ints_len, zs_len]; first | done | omega) ?_)
      | (refine And.intro (Nat.le_refl _) ?_)
      | fail
    · refine Or.inr (Or.inr (Or.inl ⟨rfl, ?_, _, fs_le (fs_within W (i - c)) ⟨?_, rfl, trivial⟩, rfl, ?_⟩))
      · rw [hW, U_len]; omega
      · show SV.slc 1 _ = U W
        rw [hW, frz_U hlen.symm]
      refine ⟨fun hin => ?_, fun hin => ?_⟩
      · have hv1 : ((i : Int) - c) / 64 < n := by rw [← hlen]; simp [inW] at hin; exact hin.2
        have e6 : ((i : Int) - c) / 2 ^ (min (6 : Int).toNat IntKind.i64.bits) = ((i : Int) - c) / 64 := rfl
        repeat' (conv => whnf); first
          | ((refine fun x hx => ?_); (obtain ⟨v, hv, rfl⟩ := U_get hx))
          | ((refine And.intro rfl (And.intro (by simp only [U_len, tab_len, List.length_set]; omega) ?_)))
          | (refine Br.tt ?_)
          | (refine Br.ff ?_)
          | (refine Br.dec (fun h => ?_) (fun h => ?_)) <;> try (exfalso; omega)
          | (refine Br.neg ?_)
          | (refine Br.mk (fun h => ?_) (fun h => ?_))
          | (refine And.intro rfl ?_)
          | (refine And.intro (by omega) ?_)
          | (refine ⟨_, Or.inl ⟨⟨by omega, by omega⟩, rfl⟩, ?_⟩)
          | (refine And.intro (by simp only [List.length_map, List.length_replicate, List.length_set, List.length_append, List.length_take, List.length_drop, List.length_cons, List.length_nil, U_len, tab_len, ints_len, zs_len]; first | done | omega) ?_)
          | (refine And.intro (Nat.le_refl _) ?_)
          | fail
        refine ⟨_, uw_at (by rw [hW]; omega), ?_⟩
        repeat' (conv => whnf); first
          | ((refine fun x hx => ?_); (obtain ⟨v, hv, rfl⟩ := U_get hx))
          | ((refine And.intro rfl (And.intro (by simp only [U_len, tab_len, List.length_set]; omega) ?_)))
          | (refine Br.tt ?_)
          | (refine Br.ff ?_)
          | (refine Br.dec (fun h => ?_) (fun h => ?_)) <;> try (exfalso; omega)
          | (refine Br.neg ?_)
          | (refine Br.mk (fun h => ?_) (fun h => ?_))
          | (refine And.intro rfl ?_)
          | (refine And.intro (by omega) ?_)
          | (refine ⟨_, Or.inl ⟨⟨by omega, by omega⟩, rfl⟩, ?_⟩)
          | (refine And.intro (by simp only [List.length_map, List.length_replicate, List.length_set, List.length_append, List.length_take, List.length_drop, List.length_cons, List.length_nil, U_len, tab_len, ints_len, zs_len]; first | done | omega) ?_)
          | (refine And.intro (Nat.le_refl _) ?_)
          | fail
        refine Or.inl ⟨rfl, _, fs_bit ((i : Int) - c) (by omega) (by omega), ?_⟩
        repeat' (conv => whnf); first
          | ((refine And.intro rfl (And.intro (by omega) (And.intro (by omega) ?_))))
          | ((refine fun x hx => ?_); (obtain ⟨v, hv, rfl⟩ := U_get hx))
          | ((refine And.intro rfl (And.intro (by simp only [U_len, tab_len, List.length_set]; omega) ?_)))
          | (refine Br.tt ?_)
          | (refine Br.ff ?_)
          | (refine Br.dec (fun h => ?_) (fun h => ?_)) <;> try (exfalso; omega)
          | (refine Br.neg ?_)
          | (refine Br.mk (fun h => ?_) (fun h => ?_))
          | (refine And.intro rfl ?_)
          | (refine And.intro (by omega) ?_)
          | (refine ⟨_, Or.inl ⟨⟨by omega, by omega⟩, rfl⟩, ?_⟩)
          | (refine And.intro (by simp only [List.length_map, List.length_replicate, List.length_set, List.length_append, List.length_take, List.length_drop, List.length_cons, List.length_nil, U_len, tab_len, ints_len, zs_len]; first | done | omega) ?_)
          | (refine And.intro (Nat.le_refl _) ?_)
          | fail
        refine ⟨_, uw_at (by rw [hW]; omega), ?_⟩
        repeat' (conv => whnf); first
          | ((refine fun x hx => ?_); (obtain ⟨v, hv, rfl⟩ := U_get hx))
          | ((refine And.intro rfl (And.intro (by simp only [U_len, tab_len, List.length_set]; omega) ?_)))
          | (refine Br.tt ?_)
          | (refine Br.ff ?_)
          | (refine Br.dec (fun h => ?_) (fun h => ?_)) <;> try (exfalso; omega)
          | (refine Br.neg ?_)
          | (refine Br.mk (fun h => ?_) (fun h => ?_))
          | (refine And.intro rfl ?_)
          | (refine And.intro (by omega) ?_)
          | (refine ⟨_, Or.inl ⟨⟨by omega, by omega⟩, rfl⟩, ?_⟩)
          | (refine And.intro (by simp only [List.length_map, List.length_replicate, List.length_set, List.length_append, List.length_take, List.length_drop, List.length_cons, List.length_nil, U_len, tab_len, ints_len, zs_len]; first | done | omega) ?_)
          | (refine And.intro (Nat.le_refl _) ?_)
          | fail
        refine ⟨⟨rfl, trivial⟩, ⟨rfl, trivial⟩, ?_, ⟨rfl, trivial⟩, trivial⟩
        show Blk.arr 1 _ = Blk.arr 1 (uw (puts p (List.replicate n 0) (((bits ws).map fun (i : Nat) => (i : Int)).take (k + 1))))
        rw [next, show p i = some ((i : Int) - c) by rw [← hp]; exact if_pos ⟨by omega, by omega⟩]
        simp only
        rw [← or_place hwd hin, ← hW]
        rfl
      · repeat' (conv => whnf); first
          | ((refine fun x hx => ?_); (obtain ⟨v, hv, rfl⟩ := U_get hx))
          | ((refine And.intro rfl (And.intro (by simp only [U_len, tab_len, List.length_set]; omega) ?_)))
          | (refine Br.tt ?_)
          | (refine Br.ff ?_)
          | (refine Br.dec (fun h => ?_) (fun h => ?_)) <;> try (exfalso; omega)
          | (refine Br.neg ?_)
          | (refine Br.mk (fun h => ?_) (fun h => ?_))
          | (refine And.intro rfl ?_)
          | (refine And.intro (by omega) ?_)
          | (refine ⟨_, Or.inl ⟨⟨by omega, by omega⟩, rfl⟩, ?_⟩)
          | (refine And.intro (by simp only [List.length_map, List.length_replicate, List.length_set, List.length_append, List.length_take, List.length_drop, List.length_cons, List.length_nil, U_len, tab_len, ints_len, zs_len]; first | done | omega) ?_)
          | (refine And.intro (Nat.le_refl _) ?_)
          | fail
        refine ⟨⟨rfl, trivial⟩, ⟨rfl, trivial⟩, ?_, ⟨rfl, trivial⟩, trivial⟩
        show Blk.arr 1 (uw (puts p (List.replicate n 0) (((bits ws).map fun (i : Nat) => (i : Int)).take k))) = Blk.arr 1 (uw (puts p (List.replicate n 0) (((bits ws).map fun (i : Nat) => (i : Int)).take (k + 1))))
        rw [next, hW, show p i = some ((i : Int) - c) by rw [← hp]; exact if_pos ⟨by omega, by omega⟩]
        simp [put1, turn, hin]
    all_goals
      refine ⟨⟨rfl, trivial⟩, ⟨rfl, trivial⟩, ?_, ⟨rfl, trivial⟩, trivial⟩
      show Blk.arr 1 (uw (puts p (List.replicate n 0) (((bits ws).map fun (i : Nat) => (i : Int)).take k))) = Blk.arr 1 (uw (puts p (List.replicate n 0) (((bits ws).map fun (i : Nat) => (i : Int)).take (k + 1))))
      rw [next, hW, show p i = none by rw [← hp]; exact if_neg (by omega)]
  · repeat' (conv => whnf); first
      | ((refine fun x hx => ?_); (obtain ⟨v, hv, rfl⟩ := U_get hx))
      | ((refine And.intro rfl (And.intro (by simp only [U_len, tab_len, List.length_set]; omega) ?_)))
      | (refine Br.tt ?_)
      | (refine Br.ff ?_)
      | (refine Br.dec (fun h => ?_) (fun h => ?_)) <;> try (exfalso; omega)
      | (refine Br.neg ?_)
      | (refine Br.mk (fun h => ?_) (fun h => ?_))
      | (refine And.intro rfl ?_)
      | (refine And.intro (by omega) ?_)
      | (refine ⟨_, Or.inl ⟨⟨by omega, by omega⟩, rfl⟩, ?_⟩)
      | (refine And.intro (by simp only [List.length_map, List.length_replicate, List.length_set, List.length_append, List.length_take, List.length_drop, List.length_cons, List.length_nil, U_len, tab_len, ints_len, zs_len]; first | done | omega) ?_)
      | (refine And.intro (Nat.le_refl _) ?_)
      | fail
    have hall : (((bits ws).map fun (i : Nat) => (i : Int)).take (ints (bits ws)).length) = (bits ws).map fun (i : Nat) => (i : Int) := by
      rw [ints_len]; exact List.take_of_length_le (by simp)
    rw [hall]
    have hlen := hP (bits ws).length
    rw [List.take_of_length_le (by simp)] at hlen
    refine ⟨by rw [U_len]; omega, ?_⟩
    show SV.slc 1 _ = U (partN ws c b)
    rw [frz_U hlen.symm, partN, hp, hn]

end Go.Proofs.Ytefciekodhpefaa
