/- Sets of places: the functions that turn nothing. Sets of places: how many. Sets of places: one after the other. Sets of places: the places in plain words. Sets of places: ranks; what two sets come to. Sets of places: what two sets come to. Sets of places: ranks, lists, parts. Sets of places: of some places; parts. -/
import Derived.Test.YtckbagpdahhiiaaW1
namespace Go.Proofs.Ytckbagpdahhiiaa
section
open Go.RowKit
attribute [local irreducible] FS FO IT HS

/-- A set's words. -/
def uw (ws : List Nat) : List (List SV) := ws.map fun (x : Nat) => [.int .u64 (x : Int)]
def U (ws : List Nat) : SV := .slc 1 (uw ws)
def Wd (ws : List Nat) : Prop := ∀ x ∈ ws, x < 18446744073709551616
/-- Whether place i is in it. -/
def hasN (ws : List Nat) (i : Nat) : Bool := (ws.getD (i / 64) 0).testBit (i % 64)
def hasI (ws : List Nat) (i : Int) : Bool := decide (0 ≤ i) && hasN ws i.toNat
def inW (ws : List Nat) (i : Int) : Bool := decide (0 ≤ i) && decide (i / 64 < ws.length)
def wordsI (n : Int) : Nat := ((min (max n 0) 4096 + 63) / 64).toNat

theorem U_get {ws : List Nat} {k : Nat} {x : List SV} (h : (uw ws)[k]? = some x) : ∃ v : Nat, ws[k]? = some v ∧ x = [.int .u64 (v : Int)] := by
  rw [uw, List.getElem?_map, Option.map_eq_some_iff] at h
  obtain ⟨v, h1, rfl⟩ := h
  exact ⟨v, h1, rfl⟩

theorem hasI_of {ws : List Nat} {i : Int} {v : Nat} (h0 : 0 ≤ i) (hv : ws[(i / 64).toNat]? = some v) : hasI ws i = v.testBit (i.toNat % 64) := by
  have e : i.toNat / 64 = (i / 64).toNat := by omega
  simp [hasI, hasN, h0, List.getD_eq_getElem?_getD, e, hv]

theorem hasI_out {ws : List Nat} {i : Int} (h : inW ws i = false) : hasI ws i = false := by
  unfold inW at h
  unfold hasI hasN
  by_cases h0 : 0 ≤ i
  · have h1 : ¬ i / 64 < ws.length := by simpa [h0] using h
    have : ws.length ≤ i.toNat / 64 := by omega
    simp [List.getD_eq_getElem?_getD, List.getElem?_eq_none this]
  · simp [h0]

theorem scal (ws : List Nat) : ∀ y ∈ uw ws, scalarL y = true := by
  intro y hy
  obtain ⟨v, _, rfl⟩ := List.mem_map.1 hy
  rfl

theorem U_len (ws : List Nat) : (uw ws).length = ws.length := by simp [uw]

/-- One word turned. -/
def turn (ws : List Nat) (i : Int) (f : Nat → Nat → Nat) : List Nat := if inW ws i then ws.set (i / 64).toNat (f (ws.getD (i / 64).toNat 0) (2 ^ (i.toNat % 64))) else ws
theorem turn_length (ws : List Nat) (i : Int) (f : Nat → Nat → Nat) : (turn ws i f).length = ws.length := by
  unfold turn; split <;> simp
theorem frz_U {ws : List Nat} {n : Nat} (hn : n = ws.length) : SV.slc 1 (((uw ws).drop 0).take n) = U ws := by
  subst hn
  rw [List.drop_zero, List.take_of_length_le (by rw [U_len]; exact Nat.le_refl _)]
  rfl
theorem uw_set (ws : List Nat) (k v : Nat) : (uw ws).set k [.int .u64 (v : Int)] = uw (ws.set k v) := by
  unfold uw
  rw [← List.map_set]
end
section
open Go.RowKit
attribute [local irreducible] FS FO IT HS
end
section
open Go.RowKit
attribute [local irreducible] FS FO IT HS

/-- The places of a word whose first one is i. -/
def wbits (v i : Nat) : List Nat := if v = 0 then [] else (if v % 2 = 1 then [i] else []) ++ wbits (v / 2) (i + 1)
termination_by v
decreasing_by omega
theorem wbits_zero (i : Nat) : wbits 0 i = [] := by unfold wbits; simp
theorem wbits_step {v : Nat} (hv : 0 < v) (i : Nat) : wbits v i = (if v % 2 = 1 then [i] else []) ++ wbits (v / 2) (i + 1) := by
  rw [wbits, if_neg (by omega)]
def bitsF : List Nat → Nat → List Nat
  | [], _ => []
  | v :: ws, k => wbits v (64 * k) ++ bitsF ws (k + 1)
/-- The places in it. -/
def bits (ws : List Nat) : List Nat := bitsF ws 0
def ints (l : List Nat) : List (List SV) := l.map fun (b : Nat) => [.int .i64 (b : Int)]

theorem ints_len (l : List Nat) : (ints l).length = l.length := by simp [ints]
end
section
open Go.RowKit
attribute [local irreducible] FS FO IT HS

theorem wbits_eq (b : Nat) : ∀ (v i : Nat), v < 2 ^ b → wbits v i = ((List.range b).filter fun j => v.testBit j).map (i + ·) := by
  induction b with
  | zero =>
    intro v i hv
    have : v = 0 := by simpa using hv
    subst this; simp [wbits_zero]
  | succ b ih =>
    intro v i hv
    rw [List.range_succ_eq_map, List.filter_cons, List.filter_map, Function.comp_def]
    have e : (fun j => v.testBit (Nat.succ j)) = fun j => (v / 2).testBit j := by
      funext j; exact Nat.testBit_succ v j
    rw [e]
    have h2 := ih (v / 2) (i + 1) (by rw [Nat.pow_succ] at hv; omega)
    rcases Nat.eq_zero_or_pos v with h | h
    · subst h; simp [wbits_zero]
    · rw [wbits_step h, h2, Nat.testBit_zero]
      by_cases h1 : v % 2 = 1
      · simp [h1, Nat.add_assoc, Nat.add_comm 1]
      · simp [h1, Nat.add_assoc, Nat.add_comm 1]

theorem hasN_cons_lt {v : Nat} {ws : List Nat} {j : Nat} (h : j < 64) : hasN (v :: ws) j = v.testBit j := by
  unfold hasN
  rw [Nat.div_eq_of_lt h, Nat.mod_eq_of_lt h]; rfl
theorem hasN_cons_ge (v : Nat) (ws : List Nat) (j : Nat) : hasN (v :: ws) (64 + j) = hasN ws j := by
  unfold hasN
  rw [show (64 + j) / 64 = j / 64 + 1 by omega, show (64 + j) % 64 = j % 64 by omega]; rfl

theorem bitsF_eq : ∀ (ws : List Nat) (k : Nat), Wd ws → bitsF ws k = ((List.range (64 * ws.length)).filter (hasN ws)).map (64 * k + ·)
  | [], k, _ => by simp [bitsF]
  | v :: ws, k, h => by
    have h1 := wbits_eq 64 v (64 * k) (by simpa using h v (by simp))
    have h2 := bitsF_eq ws (k + 1) fun x hx => h x (by simp [hx])
    rw [bitsF, h1, h2, List.length_cons, show 64 * (ws.length + 1) = 64 + 64 * ws.length by omega, List.range_add, List.filter_append, List.map_append, List.filter_map]
    have e1 : ((List.range 64).filter fun j => v.testBit j) = (List.range 64).filter (hasN (v :: ws)) := List.filter_congr fun j hj => by
      rw [hasN_cons_lt (List.mem_range.1 hj)]
    have e : (hasN (v :: ws) ∘ fun x => 64 + x) = hasN ws := by
      funext j; exact hasN_cons_ge v ws j
    rw [e1, e, List.map_map]
    refine congrArg _ (List.map_congr_left fun j _ => ?_)
    show 64 * (k + 1) + j = 64 * k + (64 + j)
    omega

theorem bits_eq {ws : List Nat} (h : Wd ws) : bits ws = (List.range (64 * ws.length)).filter (hasN ws) := by
  rw [bits, bitsF_eq ws 0 h]
  simp

theorem bits_mem {ws : List Nat} (h : Wd ws) {x : Nat} : x ∈ bits ws ↔ x < 64 * ws.length ∧ hasN ws x = true := by
  rw [bits_eq h, List.mem_filter, List.mem_range]

theorem bits_sorted {ws : List Nat} (h : Wd ws) : (bits ws).Pairwise (· < ·) := by
  rw [bits_eq h]
  exact List.Pairwise.filter _ List.pairwise_lt_range
end
section
open Go.RowKit
attribute [local irreducible] FS FO IT HS

theorem getD_lt {ws : List Nat} (h : Wd ws) (k : Nat) : ws.getD k 0 < 18446744073709551616 := by
  rw [List.getD_eq_getElem?_getD]
  cases hv : ws[k]? with
  | none => simp
  | some v => exact h v (List.mem_of_getElem? hv)

theorem uw_at {ws : List Nat} {j : Nat} (h : j < ws.length) : (uw ws)[j]? = some [.int .u64 ((ws.getD j 0 : Nat) : Int)] := by
  simp [uw, List.getElem?_map, List.getElem?_eq_getElem h, List.getD_eq_getElem?_getD]
end
section
open Go.RowKit
attribute [local irreducible] FS FO IT HS

theorem or_lt {x y : Nat} (hx : x < 18446744073709551616) (hy : y < 18446744073709551616) : x ||| y < 18446744073709551616 := by
  have := Nat.or_lt_two_pow (n := 64) (x := x) (y := y) (by simpa using hx) (by simpa using hy)
  simpa using this

theorem frz_tab {n : Nat} {ws : List Nat} (h : ws.length = n) : frzK 4 [.arr 1 (uw ws)] (.osl 0 1 0 n) fun y => y = U ws := by
  refine ⟨rfl, by rw [U_len]; omega, ?_⟩
  subst h
  rw [frz_U rfl]

section
variable (a b : List Nat) (ha : Wd a) (hb : Wd b) (hla : a.length ≤ 1000000) (hlb : b.length ≤ 1000000)
include ha hb hla hlb

end
end
section
open Go.RowKit
attribute [local irreducible] FS FO IT HS

theorem ints_get' {l : List Nat} {k : Nat} {x : List SV} (h : (ints l)[k]? = some x) : ∃ v : Nat, l[k]? = some v ∧ x = [.int .i64 (v : Int)] := by
  rw [ints, List.getElem?_map, Option.map_eq_some_iff] at h
  obtain ⟨v, h1, rfl⟩ := h
  exact ⟨v, h1, rfl⟩

def I (l : List Nat) : SV := .slc 1 (ints l)

/-- The places are no more than the bits. -/
theorem wbits_len (b : Nat) : ∀ v i, v < 2 ^ b → (wbits v i).length ≤ b := by
  induction b with
  | zero => intro v i hv; have : v = 0 := by simpa using hv
            subst this; simp [wbits_zero]
  | succ b ih =>
    intro v i hv
    rcases Nat.eq_zero_or_pos v with h | h
    · subst h; simp [wbits_zero]
    · have := ih (v / 2) (i + 1) (by rw [Nat.pow_succ] at hv; omega)
      rw [wbits_step h, List.length_append]
      split <;> simp <;> omega
theorem bitsF_len : ∀ (ws : List Nat) (k : Nat), Wd ws → (bitsF ws k).length ≤ 64 * ws.length
  | [], _, _ => by simp [bitsF]
  | v :: ws, k, h => by
    have h1 := wbits_len 64 v (64 * k) (by simpa using h v (by simp))
    have h2 := bitsF_len ws (k + 1) fun x hx => h x (by simp [hx])
    simp only [bitsF, List.length_append, List.length_cons]; omega
theorem bits_len (ws : List Nat) (h : Wd ws) : (bits ws).length ≤ 64 * ws.length := bitsF_len ws 0 h
end
section
open Go.RowKit
attribute [local irreducible] FS FO IT HS

/-- Numbers. -/
def zs (l : List Int) : List (List SV) := l.map fun x => [.int .i64 x]
def Z (l : List Int) : SV := .slc 1 (zs l)
theorem zs_len (l : List Int) : (zs l).length = l.length := by simp [zs]
theorem zs_get {l : List Int} {k : Nat} {x : List SV} (h : (zs l)[k]? = some x) : ∃ v : Int, l[k]? = some v ∧ x = [.int .i64 v] := by
  rw [zs, List.getElem?_map, Option.map_eq_some_iff] at h
  obtain ⟨v, h1, rfl⟩ := h
  exact ⟨v, h1, rfl⟩
/-- A set with a place. -/
def put1 (ws : List Nat) (i : Int) : List Nat := turn ws i (· ||| ·)
theorem put1_len (ws : List Nat) (i : Int) : (put1 ws i).length = ws.length := turn_length ws i _
theorem put1_wd {ws : List Nat} (h : Wd ws) (i : Int) : Wd (put1 ws i) := by
  unfold put1 turn
  split
  · intro x hx
    rcases List.mem_or_eq_of_mem_set hx with hx | rfl
    · exact h x hx
    · exact or_lt (getD_lt h _) (pow_lt64 (Nat.mod_lt _ (by omega)))
  · exact h
def puts (p : Int → Option Int) (ws : List Nat) (l : List Int) : List Nat := l.foldl (fun ws i => match p i with | some j => put1 ws j | none => ws) ws
theorem puts_len (p : Int → Option Int) : ∀ (l : List Int) (ws : List Nat), (puts p ws l).length = ws.length
  | [], ws => rfl
  | i :: l, ws => by
    have := puts_len p l (match p i with | some j => put1 ws j | none => ws)
    simp only [puts, List.foldl_cons] at this ⊢
    rw [this]; split <;> simp [put1_len]
theorem puts_wd (p : Int → Option Int) : ∀ (l : List Int) (ws : List Nat), Wd ws → Wd (puts p ws l)
  | [], ws, h => h
  | i :: l, ws, h => by
    have := puts_wd p l (match p i with | some j => put1 ws j | none => ws) (by split <;> first | exact h | exact put1_wd h _)
    simpa only [puts, List.foldl_cons] using this
theorem puts_take (p : Int → Option Int) (ws : List Nat) {l : List Int} {k : Nat} {x : Int} (h : l[k]? = some x) : puts p ws (l.take (k + 1)) = match p x with | some j => put1 (puts p ws (l.take k)) j | none => puts p ws (l.take k) := by
  rw [List.take_add_one, h]
  simp [puts, List.foldl_append]

theorem wd_zero (n : Nat) : Wd (List.replicate n 0) := fun x hx => by simp at hx; omega

/-- Those from a place on, up to another one. -/
def partN (ws : List Nat) (a b : Int) : List Nat :=
  puts (fun i => if a ≤ i ∧ i < b then some (i - a) else none) (List.replicate (wordsI (b - a)) 0) ((bits ws).map fun (i : Nat) => (i : Int))
end
end Go.Proofs.Ytckbagpdahhiiaa
