/- Sets of places: the functions that turn nothing. Sets of places: how many. Sets of places: one after the other. Sets of places: the places in plain words. Sets of places: ranks; what two sets come to. Sets of places: what two sets come to. Sets of places: ranks, lists, parts. Sets of places: of some places; parts. -/
import Derived.Test.YtckbagpdahhiiaaW1
namespace Go.Proofs.Ytckbagpdahhiiaa
section
open Go.RowKit
attribute [local irreducible] FS FO IT HS

/-- A set's words. -/
def uw (ws : List Nat) : List (List SV) := ws.map fun (x : Nat) => [.int .u64 (x : Int)]
def U (ws : List Nat) : SV := .slc 1 (uw ws)
def Wd (ws : List Nat) : Prop := ∀ x ∈ ws, x < 18446744073709551616
/-- Whether place i is in it. -/
def hasN (ws : List Nat) (i : Nat) : Bool := (ws.getD (i / 64) 0).testBit (i % 64)
def hasI (ws : List Nat) (i : Int) : Bool := decide (0 ≤ i) && hasN ws i.toNat
def inW (ws : List Nat) (i : Int) : Bool := decide (0 ≤ i) && decide (i / 64 < ws.length)
def wordsI (n : Int) : Nat := ((min (max n 0) 4096 + 63) / 64).toNat

theorem U_get {ws : List Nat} {k : Nat} {x : List SV} (h : (uw ws)[k]? = some x) : ∃ v : Nat, ws[k]? = some v ∧ x = [.int .u64 (v : Int)] := by
  rw [uw, List.getElem?_map, Option.map_eq_some_iff] at h
  obtain ⟨v, h1, rfl⟩ := h
  exact ⟨v, h1, rfl⟩

theorem and_pow (v k : Nat) : (v &&& 2 ^ k ≠ 0) ↔ v.testBit k = true := by
  constructor
  · intro h
    cases hb : v.testBit k with
    | true => rfl
    | false =>
      refine absurd (Nat.eq_of_testBit_eq fun j => ?_) h
      rw [Nat.testBit_and, Nat.testBit_two_pow, Nat.zero_testBit]
      by_cases e : k = j
      · subst e; simp [hb]
      · simp [e]
  · intro h e
    have := congrArg (fun x => x.testBit k) e
    simp [Nat.testBit_and, h] at this

theorem hasI_of {ws : List Nat} {i : Int} {v : Nat} (h0 : 0 ≤ i) (hv : ws[(i / 64).toNat]? = some v) : hasI ws i = v.testBit (i.toNat % 64) := by
  have e : i.toNat / 64 = (i / 64).toNat := by omega
  simp [hasI, hasN, h0, List.getD_eq_getElem?_getD, e, hv]

theorem hasI_out {ws : List Nat} {i : Int} (h : inW ws i = false) : hasI ws i = false := by
  unfold inW at h
  unfold hasI hasN
  by_cases h0 : 0 ≤ i
  · have h1 : ¬ i / 64 < ws.length := by simpa [h0] using h
    have : ws.length ≤ i.toNat / 64 := by omega
    simp [List.getD_eq_getElem?_getD, List.getElem?_eq_none this]
  · simp [h0]

def ir_flags_within : IR :=
(.seq
 (.reg (⟨(some 4), .mv (.c (.bool false)), none⟩ ::
   []))
 (.seq
  (.reg (⟨(some 5), .mv (.t 1), none⟩ ::
    ⟨(some 6), .bin .geq (.t 5) (.c (.int .i64 0)), none⟩ ::
    ⟨(some 7), .mv (.t 6), none⟩ ::
    ⟨(some 8), .mv (.t 1), some (7, true)⟩ ::
    ⟨(some 9), .bin .shr (.t 8) (.c (.int .u64 6)), some (7, true)⟩ ::
    ⟨(some 10), .mv (.t 0), some (7, true)⟩ ::
    ⟨(some 11), .ln (.t 10), some (7, true)⟩ ::
    ⟨(some 12), .bin .lss (.t 9) (.t 11), some (7, true)⟩ ::
    ⟨(some 13), .pick (.t 7) (.t 12) (.c (.bool false)), none⟩ ::
    ⟨(some 4), .mv (.t 13), none⟩ ::
    []))
  .ret))
theorem cd_flags_within : Code1 Try.prog 105 14 ir_flags_within [.t 4] := ⟨Try.call105, _, _, Try.func105, rfl, by kernel_rfl, by kernel_rfl, by kernel_rfl, by kernel_rfl⟩

theorem fs_within (ws : List Nat) (i : Int) : FS Try.prog 105 [U ws, .int .i64 i] (.bool (inW ws i)) := by
  refine fs_of_cvc mixed cd_flags_within (by simp) ?_
  repeat' (conv => whnf); first
    | (refine Br.tt ?_)
    | (refine Br.ff ?_)
    | (refine Br.dec (fun h => ?_) (fun h => ?_)) <;> try (exfalso; omega)
    | (refine Br.neg ?_)
    | (refine Br.mk (fun h => ?_) (fun h => ?_))
    | (refine And.intro rfl ?_)
    | (refine And.intro (by omega) ?_)
    | (refine ⟨_, Or.inl ⟨⟨by omega, by omega⟩, rfl⟩, ?_⟩)
    | (refine And.intro (by simp only [lens_all]; first | done | omega) ?_)
    | (refine And.intro (Nat.le_refl _) ?_)
    | fail
  · show SV.bool _ = SV.bool _
    simp [inW, bits_i64, uw, *]
  · show SV.bool _ = SV.bool _
    simp [inW, *]

def ir_flags_bit : IR :=
(.seq
 (.reg (⟨(some 2), .mv (.c (.int .u64 0)), none⟩ ::
   []))
 (.seq
  (.reg (⟨(some 3), .mv (.t 0), none⟩ ::
    ⟨(some 4), .cv .u64 (.t 3), none⟩ ::
    ⟨(some 5), .bin .and (.t 4) (.c (.int .u64 63)), none⟩ ::
    ⟨(some 6), .bin .shl (.c (.int .u64 1)) (.t 5), none⟩ ::
    ⟨(some 2), .mv (.t 6), none⟩ ::
    []))
  .ret))
theorem cd_flags_bit : Code1 Try.prog 106 7 ir_flags_bit [.t 2] := ⟨Try.call106, _, _, Try.func106, rfl, by kernel_rfl, by kernel_rfl, by kernel_rfl, by kernel_rfl⟩

theorem fs_bit (i : Int) (h0 : 0 ≤ i) (h1 : i ≤ 9223372036854775807) : FS Try.prog 106 [.int .i64 i] (.int .u64 ((2 ^ (i.toNat % 64) : Nat) : Int)) := by
  refine fs_of_cvc mixed cd_flags_bit (by simp) ?_
  refine ⟨i, Or.inl ⟨⟨by omega, by omega⟩, rfl⟩, ?_⟩
  have e : bAnd .u64 i 63 = ((i.toNat % 64 : Nat) : Int) := by
    have := bAnd_u64 (x := i.toNat) (y := 63) (by omega) (by omega)
    rw [show (i.toNat &&& 63) = i.toNat % 64 from and_mask i.toNat 6] at this
    rw [← this]; congr 1; omega
  have hlt : i.toNat % 64 < 64 := Nat.mod_lt _ (by omega)
  have hp : 2 ^ (i.toNat % 64) < 2 ^ 64 := Nat.pow_lt_pow_right (by omega) hlt
  refine And.intro rfl ?_
  show 0 ≤ bAnd .u64 i 63 ∧ _
  rw [e]
  refine And.intro (by omega) ?_
  refine ⟨_, Or.inr rfl, ?_⟩
  show SV.int _ _ = SV.int _ _
  congr 1
  rw [bits_u64, Nat.min_eq_left (by simp; omega), Int.toNat_natCast]
  have : (1 : Int) * 2 ^ (i.toNat % 64) = ((2 ^ (i.toNat % 64) : Nat) : Int) := by simp
  rw [this]
  generalize 2 ^ (i.toNat % 64) = p at hp ⊢
  exact wrap_u64_id (by omega) (by omega)



def ir_flags_Has : IR :=
(.seq
 (.reg (⟨(some 4), .mv (.c (.bool false)), none⟩ ::
   []))
 (.seq
  (.draw (⟨(some 5), .mv (.t 0), none⟩ ::
    ⟨(some 6), .mv (.t 1), none⟩ ::
    ⟨(some 7), .call (.c (.fn 105 [])) [(.t 5), (.t 6)], none⟩ ::
    ⟨(some 8), .mv (.t 7), none⟩ ::
    ⟨(some 9), .mv (.t 0), some (8, true)⟩ ::
    ⟨(some 10), .mv (.t 1), some (8, true)⟩ ::
    ⟨(some 11), .bin .shr (.t 10) (.c (.int .u64 6)), some (8, true)⟩ ::
    ⟨(some 12), .ia 1 (.t 9) (.t 11), some (8, true)⟩ ::
    ⟨(some 13), .ld 1 false (.t 12), some (8, true)⟩ ::
    ⟨(some 14), .mv (.t 1), some (8, true)⟩ ::
    ⟨(some 15), .call (.c (.fn 106 [])) [(.t 14)], some (8, true)⟩ ::
    [])
   (⟨(some 16), .bin .and (.t 13) (.t 15), some (8, true)⟩ ::
    ⟨(some 17), .bin .neq (.t 16) (.c (.int .u64 0)), some (8, true)⟩ ::
    ⟨(some 18), .pick (.t 8) (.t 17) (.c (.bool false)), none⟩ ::
    ⟨(some 4), .mv (.t 18), none⟩ ::
    []))
  .ret))
theorem cd_flags_Has : Code1 Try.prog 75 19 ir_flags_Has [.t 4] := ⟨Try.call75, _, _, Try.func75, rfl, by kernel_rfl, by kernel_rfl, by kernel_rfl, by kernel_rfl⟩

theorem fs_Has (ws : List Nat) (hw : Wd ws) (i : Int) (h1 : i ≤ 9223372036854775807) : FS Try.prog 75 [U ws, .int .i64 i] (.bool (hasI ws i)) := by
  refine fs_of_cvc mixed cd_flags_Has (by simp) ?_
  refine (Or.inl ⟨rfl, _, fs_within ws i, ?_⟩)
  refine ⟨fun h => ?_, fun h => ?_⟩
  · have h0 : 0 ≤ i := by simp [inW] at h; exact h.1
    have h2 : i / 64 < ws.length := by simp [inW] at h; exact h.2
    have e6 : i / 2 ^ (min (6 : Int).toNat IntKind.i64.bits) = i / 64 := rfl
    refine Br.tt (Br.tt (And.intro (by omega) (Br.tt (And.intro rfl (And.intro ?_ (And.intro ?_ fun x hx => ?_))))))
    · rw [e6]; omega
    · rw [e6]; simp [uw]; omega
    obtain ⟨v, hv, rfl⟩ := U_get hx
    rw [e6] at hv
    have hvw := hw v (List.mem_of_getElem? hv)
    refine Br.tt (Br.tt (Br.tt ((Or.inl ⟨rfl, _, fs_bit i h0 h1, ?_⟩))))
    refine Br.tt (And.intro rfl (Br.tt (And.intro rfl ?_)))
    show SV.bool (decide (bAnd .u64 (v : Int) ((2 ^ (i.toNat % 64) : Nat) : Int) ≠ 0)) = _
    have hlt : i.toNat % 64 < 64 := Nat.mod_lt _ (by omega)
    have hp : 2 ^ (i.toNat % 64) < 2 ^ 64 := Nat.pow_lt_pow_right (by omega) hlt
    rw [bAnd_u64 hvw (by simpa using hp), hasI_of h0 hv]
    congr 1
    have := and_pow v (i.toNat % 64)
    rw [Bool.eq_iff_iff, ← this]
    simp
  · repeat refine Br.ff ?_
    show SV.bool _ = SV.bool _
    rw [hasI_out h]



theorem scal (ws : List Nat) : ∀ y ∈ uw ws, scalarL y = true := by
  intro y hy
  obtain ⟨v, _, rfl⟩ := List.mem_map.1 hy
  rfl

theorem U_len (ws : List Nat) : (uw ws).length = ws.length := by simp [uw]



/-- One word turned. -/
def turn (ws : List Nat) (i : Int) (f : Nat → Nat → Nat) : List Nat := if inW ws i then ws.set (i / 64).toNat (f (ws.getD (i / 64).toNat 0) (2 ^ (i.toNat % 64))) else ws
theorem turn_length (ws : List Nat) (i : Int) (f : Nat → Nat → Nat) : (turn ws i f).length = ws.length := by
  unfold turn; split <;> simp
theorem frz_U {ws : List Nat} {n : Nat} (hn : n = ws.length) : SV.slc 1 (((uw ws).drop 0).take n) = U ws := by
  subst hn
  rw [List.drop_zero, List.take_of_length_le (by rw [U_len]; exact Nat.le_refl _)]
  rfl
theorem uw_set (ws : List Nat) (k v : Nat) : (uw ws).set k [.int .u64 (v : Int)] = uw (ws.set k v) := by
  unfold uw
  rw [← List.map_set]
end
section
open Go.RowKit
attribute [local irreducible] FS FO IT HS

/-- How many bits are set. -/
def pc (v : Nat) : Nat := if v = 0 then 0 else v % 2 + pc (v / 2)
termination_by v
decreasing_by omega

theorem pc_zero : pc 0 = 0 := by unfold pc; simp
theorem pc_step (v : Nat) : pc v = v % 2 + pc (v / 2) := by
  by_cases h : v = 0
  · subst h; simp [pc_zero]
  · rw [pc, if_neg h]

theorem low_off : ∀ (v : Nat), 0 < v → pc (v &&& (v - 1)) + 1 = pc v ∧ v &&& (v - 1) < v := by
  intro v
  induction v using Nat.strongRecOn with
  | _ v ih =>
    intro hv
    have hdm : v = 2 * (v / 2) + v % 2 := by omega
    rcases Nat.mod_two_eq_zero_or_one v with h0 | h1
    · have hu : 0 < v / 2 := by omega
      obtain ⟨i1, i2⟩ := ih (v / 2) (by omega) hu
      have e : v &&& (v - 1) = 2 * (v / 2 &&& (v / 2 - 1)) := by
        apply Nat.eq_of_testBit_eq
        intro j
        cases j with
        | zero => simp [Nat.testBit_zero, h0]
        | succ j => rw [Nat.testBit_succ, Nat.testBit_succ, Nat.and_div_two, show (v - 1) / 2 = v / 2 - 1 by omega, Nat.mul_div_cancel_left _ (by omega)]
      rw [e]
      refine ⟨?_, by omega⟩
      rw [pc_step (2 * _), pc_step v]
      have : 2 * (v / 2 &&& (v / 2 - 1)) / 2 = v / 2 &&& (v / 2 - 1) := by omega
      rw [this]; omega
    · have e : v &&& (v - 1) = 2 * (v / 2) := by
        apply Nat.eq_of_testBit_eq
        intro j
        cases j with
        | zero => simp [Nat.testBit_zero]; omega
        | succ j => rw [Nat.testBit_succ, Nat.testBit_succ, Nat.and_div_two, show (v - 1) / 2 = v / 2 by omega, Nat.mul_div_cancel_left _ (by omega), Nat.and_self]
      rw [e]
      refine ⟨?_, by omega⟩
      rw [pc_step (2 * _), pc_step v]
      have : 2 * (v / 2) / 2 = v / 2 := by omega
      rw [this]; omega

theorem pc_le (k : Nat) : ∀ v, v < 2 ^ k → pc v ≤ k := by
  induction k with
  | zero => intro v hv; have : v = 0 := by simpa using hv
            subst this; simp [pc_zero]
  | succ k ih =>
    intro v hv
    have := ih (v / 2) (by rw [Nat.pow_succ] at hv; omega)
    rw [pc_step]; omega



/-- How many places are in it. -/
def cnt (ws : List Nat) : Nat := (ws.map pc).sum
theorem cnt_take {ws : List Nat} {k v : Nat} (hv : ws[k]? = some v) : cnt (ws.take (k + 1)) = cnt (ws.take k) + pc v := by
  have hk := (List.getElem?_eq_some_iff.1 hv).1
  have he := (List.getElem?_eq_some_iff.1 hv).2
  rw [cnt, cnt, List.take_succ_eq_append_getElem hk, he]
  simp
theorem cnt_le : ∀ (ws : List Nat), Wd ws → cnt ws ≤ 64 * ws.length
  | [], _ => by simp [cnt]
  | v :: ws, h => by
    have h1 := pc_le 64 v (by simpa using h v (by simp))
    have h2 := cnt_le ws fun x hx => h x (by simp [hx])
    simp only [cnt, List.map_cons, List.sum_cons, List.length_cons] at h2 ⊢
    omega
theorem wd_take {ws : List Nat} (h : Wd ws) (k : Nat) : Wd (ws.take k) := fun x hx => h x (List.mem_of_mem_take hx)
end
section
open Go.RowKit
attribute [local irreducible] FS FO IT HS

/-- The places of a word whose first one is i. -/
def wbits (v i : Nat) : List Nat := if v = 0 then [] else (if v % 2 = 1 then [i] else []) ++ wbits (v / 2) (i + 1)
termination_by v
decreasing_by omega
theorem wbits_zero (i : Nat) : wbits 0 i = [] := by unfold wbits; simp
theorem wbits_step {v : Nat} (hv : 0 < v) (i : Nat) : wbits v i = (if v % 2 = 1 then [i] else []) ++ wbits (v / 2) (i + 1) := by
  rw [wbits, if_neg (by omega)]
def bitsF : List Nat → Nat → List Nat
  | [], _ => []
  | v :: ws, k => wbits v (64 * k) ++ bitsF ws (k + 1)
/-- The places in it. -/
def bits (ws : List Nat) : List Nat := bitsF ws 0
def ints (l : List Nat) : List (List SV) := l.map fun (b : Nat) => [.int .i64 (b : Int)]

theorem ints_len (l : List Nat) : (ints l).length = l.length := by simp [ints]
theorem ints_get {l : List Nat} {i b : Nat} {r : List Nat} (h : l.drop i = b :: r) : (ints l)[i]? = some [.int .i64 (b : Int)] := by
  have : l[i]? = some b := by
    have := congrArg (fun x => x[0]?) h
    simpa using this
  simp [ints, this]
theorem drop_next {l : List Nat} {i b : Nat} {r : List Nat} (h : l.drop i = b :: r) : l.drop (i + 1) = r ∧ i + 1 ≤ l.length := by
  have h1 : l.drop (i + 1) = (l.drop i).drop 1 := by simp
  refine ⟨by rw [h1, h]; rfl, ?_⟩
  have := congrArg List.length h
  simp at this; omega
end
section
open Go.RowKit
attribute [local irreducible] FS FO IT HS

theorem wbits_eq (b : Nat) : ∀ (v i : Nat), v < 2 ^ b → wbits v i = ((List.range b).filter fun j => v.testBit j).map (i + ·) := by
  induction b with
  | zero =>
    intro v i hv
    have : v = 0 := by simpa using hv
    subst this; simp [wbits_zero]
  | succ b ih =>
    intro v i hv
    rw [List.range_succ_eq_map, List.filter_cons, List.filter_map, Function.comp_def]
    have e : (fun j => v.testBit (Nat.succ j)) = fun j => (v / 2).testBit j := by
      funext j; exact Nat.testBit_succ v j
    rw [e]
    have h2 := ih (v / 2) (i + 1) (by rw [Nat.pow_succ] at hv; omega)
    rcases Nat.eq_zero_or_pos v with h | h
    · subst h; simp [wbits_zero]
    · rw [wbits_step h, h2, Nat.testBit_zero]
      by_cases h1 : v % 2 = 1
      · simp [h1, Nat.add_assoc, Nat.add_comm 1]
      · simp [h1, Nat.add_assoc, Nat.add_comm 1]

theorem hasN_cons_lt {v : Nat} {ws : List Nat} {j : Nat} (h : j < 64) : hasN (v :: ws) j = v.testBit j := by
  unfold hasN
  rw [Nat.div_eq_of_lt h, Nat.mod_eq_of_lt h]; rfl
theorem hasN_cons_ge (v : Nat) (ws : List Nat) (j : Nat) : hasN (v :: ws) (64 + j) = hasN ws j := by
  unfold hasN
  rw [show (64 + j) / 64 = j / 64 + 1 by omega, show (64 + j) % 64 = j % 64 by omega]; rfl

theorem bitsF_eq : ∀ (ws : List Nat) (k : Nat), Wd ws → bitsF ws k = ((List.range (64 * ws.length)).filter (hasN ws)).map (64 * k + ·)
  | [], k, _ => by simp [bitsF]
  | v :: ws, k, h => by
    have h1 := wbits_eq 64 v (64 * k) (by simpa using h v (by simp))
    have h2 := bitsF_eq ws (k + 1) fun x hx => h x (by simp [hx])
    rw [bitsF, h1, h2, List.length_cons, show 64 * (ws.length + 1) = 64 + 64 * ws.length by omega, List.range_add, List.filter_append, List.map_append, List.filter_map]
    have e1 : ((List.range 64).filter fun j => v.testBit j) = (List.range 64).filter (hasN (v :: ws)) := List.filter_congr fun j hj => by
      rw [hasN_cons_lt (List.mem_range.1 hj)]
    have e : (hasN (v :: ws) ∘ fun x => 64 + x) = hasN ws := by
      funext j; exact hasN_cons_ge v ws j
    rw [e1, e, List.map_map]
    refine congrArg _ (List.map_congr_left fun j _ => ?_)
    show 64 * (k + 1) + j = 64 * k + (64 + j)
    omega

theorem bits_eq {ws : List Nat} (h : Wd ws) : bits ws = (List.range (64 * ws.length)).filter (hasN ws) := by
  rw [bits, bitsF_eq ws 0 h]
  simp

theorem bits_mem {ws : List Nat} (h : Wd ws) {x : Nat} : x ∈ bits ws ↔ x < 64 * ws.length ∧ hasN ws x = true := by
  rw [bits_eq h, List.mem_filter, List.mem_range]

theorem hasN_lt {ws : List Nat} {x : Nat} (h : hasN ws x = true) : x < 64 * ws.length := by
  unfold hasN at h
  by_cases hx : x / 64 < ws.length
  · omega
  · rw [List.getD_eq_getElem?_getD, List.getElem?_eq_none (by omega)] at h; simp at h

theorem bits_sorted {ws : List Nat} (h : Wd ws) : (bits ws).Pairwise (· < ·) := by
  rw [bits_eq h]
  exact List.Pairwise.filter _ List.pairwise_lt_range

/-- Words that have the same places are the same. -/
theorem words_ext {a b : List Nat} (ha : Wd a) (hb : Wd b) (hl : a.length = b.length) (h : ∀ i, i < 64 * a.length → hasN a i = hasN b i) : a = b := by
  refine List.ext_getElem hl fun k h1 h2 => ?_
  have hak := ha a[k] (List.getElem_mem h1)
  have hbk := hb b[k] (List.getElem_mem h2)
  refine Nat.eq_of_testBit_eq fun j => ?_
  by_cases hj : j < 64
  · have := h (64 * k + j) (by omega)
    unfold hasN at this
    rw [show (64 * k + j) / 64 = k by omega, show (64 * k + j) % 64 = j by omega] at this
    simpa [List.getD_eq_getElem?_getD, h1, h2] using this
  · have hp : 18446744073709551616 ≤ 2 ^ j := by
      have := Nat.pow_le_pow_right (n := 2) (by omega) (Nat.le_of_not_lt hj)
      simpa using this
    rw [Nat.testBit_lt_two_pow (Nat.lt_of_lt_of_le hak hp), Nat.testBit_lt_two_pow (Nat.lt_of_lt_of_le hbk hp)]
end
section
open Go.RowKit
attribute [local irreducible] FS FO IT HS

theorem getD_lt {ws : List Nat} (h : Wd ws) (k : Nat) : ws.getD k 0 < 18446744073709551616 := by
  rw [List.getD_eq_getElem?_getD]
  cases hv : ws[k]? with
  | none => simp
  | some v => exact h v (List.mem_of_getElem? hv)

theorem uw_at {ws : List Nat} {j : Nat} (h : j < ws.length) : (uw ws)[j]? = some [.int .u64 ((ws.getD j 0 : Nat) : Int)] := by
  simp [uw, List.getElem?_map, List.getElem?_eq_getElem h, List.getD_eq_getElem?_getD]
end
section
open Go.RowKit
attribute [local irreducible] FS FO IT HS





theorem or_lt {x y : Nat} (hx : x < 18446744073709551616) (hy : y < 18446744073709551616) : x ||| y < 18446744073709551616 := by
  have := Nat.or_lt_two_pow (n := 64) (x := x) (y := y) (by simpa using hx) (by simpa using hy)
  simpa using this




theorem frz_tab {n : Nat} {ws : List Nat} (h : ws.length = n) : frzK 4 [.arr 1 (uw ws)] (.osl 0 1 0 n) fun y => y = U ws := by
  refine ⟨rfl, by rw [U_len]; omega, ?_⟩
  subst h
  rw [frz_U rfl]

def joinU (a b : List Nat) : List Nat := tab (max a.length b.length) fun i => a.getD i 0 ||| b.getD i 0
def joinB (a b : List Nat) : List Nat := tab a.length fun i => a.getD i 0 &&& b.getD i 0
def joinM (a b : List Nat) : List Nat := tab a.length fun i => natAndNot (a.getD i 0) (b.getD i 0)




section
variable (a b : List Nat) (ha : Wd a) (hb : Wd b) (hla : a.length ≤ 1000000) (hlb : b.length ≤ 1000000)
include ha hb hla hlb



end

/-- All others, ahead of the last word's end; and all others of so many places. -/
def flip0 (a : List Nat) (n : Int) : List Nat := tab (wordsI n) fun i => 18446744073709551615 - a.getD i 0
def flipN (a : List Nat) (n : Int) : List Nat :=
  if 0 < n ∧ n < 4096 ∧ n % 64 ≠ 0 then (flip0 a n).set (wordsI n - 1) ((flip0 a n).getD (wordsI n - 1) 0 % 2 ^ (n % 64).toNat) else flip0 a n
end
section
open Go.RowKit
attribute [local irreducible] FS FO IT HS

/-- How many places there are below one, as it is reckoned. -/
def rankC (ws : List Nat) (i : Int) : Nat :=
  if i ≤ 0 then 0 else if ws.length ≤ i / 64 then cnt ws else cnt (ws.take (i / 64).toNat) + pc (ws.getD (i / 64).toNat 0 % 2 ^ (i.toNat % 64))

theorem uw_take (ws : List Nat) (k : Nat) : (uw ws).take k = uw (ws.take k) := by simp [uw, List.map_take]



theorem find_at {α : Type} {p : α → Bool} {x : α} : ∀ {l : List α} {k : Nat}, l[k]? = some x → p x = true → (∀ (j : Nat) (y : α), j < k → l[j]? = some y → p y = false) → l.find? p = some x
  | [], k, h, _, _ => by simp at h
  | y :: l, 0, h, hp, _ => by simp at h; subst h; simp [List.find?, hp]
  | y :: l, k + 1, h, hp, hn => by
    have h0 := hn 0 y (by omega) rfl
    rw [List.find?_cons_of_neg (by simp [h0])]
    exact find_at (l := l) (k := k) (by simpa using h) hp fun j z hj hz => hn (j + 1) z (by omega) (by simpa using hz)

/-- The first place from one on. -/
def nextI (ws : List Nat) (i : Int) : Int := match (bits ws).find? (fun (b : Nat) => decide (i ≤ (b : Int))) with
  | some b => b
  | none => -1

theorem ints_get' {l : List Nat} {k : Nat} {x : List SV} (h : (ints l)[k]? = some x) : ∃ v : Nat, l[k]? = some v ∧ x = [.int .i64 (v : Int)] := by
  rw [ints, List.getElem?_map, Option.map_eq_some_iff] at h
  obtain ⟨v, h1, rfl⟩ := h
  exact ⟨v, h1, rfl⟩



def I (l : List Nat) : SV := .slc 1 (ints l)





/-- The places are no more than the bits. -/
theorem wbits_len (b : Nat) : ∀ v i, v < 2 ^ b → (wbits v i).length ≤ b := by
  induction b with
  | zero => intro v i hv; have : v = 0 := by simpa using hv
            subst this; simp [wbits_zero]
  | succ b ih =>
    intro v i hv
    rcases Nat.eq_zero_or_pos v with h | h
    · subst h; simp [wbits_zero]
    · have := ih (v / 2) (i + 1) (by rw [Nat.pow_succ] at hv; omega)
      rw [wbits_step h, List.length_append]
      split <;> simp <;> omega
theorem bitsF_len : ∀ (ws : List Nat) (k : Nat), Wd ws → (bitsF ws k).length ≤ 64 * ws.length
  | [], _, _ => by simp [bitsF]
  | v :: ws, k, h => by
    have h1 := wbits_len 64 v (64 * k) (by simpa using h v (by simp))
    have h2 := bitsF_len ws (k + 1) fun x hx => h x (by simp [hx])
    simp only [bitsF, List.length_append, List.length_cons]; omega
theorem bits_len (ws : List Nat) (h : Wd ws) : (bits ws).length ≤ 64 * ws.length := bitsF_len ws 0 h
end
section
open Go.RowKit
attribute [local irreducible] FS FO IT HS

/-- Numbers. -/
def zs (l : List Int) : List (List SV) := l.map fun x => [.int .i64 x]
def Z (l : List Int) : SV := .slc 1 (zs l)
theorem zs_len (l : List Int) : (zs l).length = l.length := by simp [zs]
theorem zs_get {l : List Int} {k : Nat} {x : List SV} (h : (zs l)[k]? = some x) : ∃ v : Int, l[k]? = some v ∧ x = [.int .i64 v] := by
  rw [zs, List.getElem?_map, Option.map_eq_some_iff] at h
  obtain ⟨v, h1, rfl⟩ := h
  exact ⟨v, h1, rfl⟩
theorem I_eq (l : List Nat) : I l = Z (l.map fun (b : Nat) => (b : Int)) := by simp [I, Z, ints, zs, Function.comp_def]

/-- A set with a place. -/
def put1 (ws : List Nat) (i : Int) : List Nat := turn ws i (· ||| ·)
theorem put1_len (ws : List Nat) (i : Int) : (put1 ws i).length = ws.length := turn_length ws i _
theorem put1_wd {ws : List Nat} (h : Wd ws) (i : Int) : Wd (put1 ws i) := by
  unfold put1 turn
  split
  · intro x hx
    rcases List.mem_or_eq_of_mem_set hx with hx | rfl
    · exact h x hx
    · exact or_lt (getD_lt h _) (pow_lt64 (Nat.mod_lt _ (by omega)))
  · exact h
def puts (p : Int → Option Int) (ws : List Nat) (l : List Int) : List Nat := l.foldl (fun ws i => match p i with | some j => put1 ws j | none => ws) ws
theorem puts_len (p : Int → Option Int) : ∀ (l : List Int) (ws : List Nat), (puts p ws l).length = ws.length
  | [], ws => rfl
  | i :: l, ws => by
    have := puts_len p l (match p i with | some j => put1 ws j | none => ws)
    simp only [puts, List.foldl_cons] at this ⊢
    rw [this]; split <;> simp [put1_len]
theorem puts_wd (p : Int → Option Int) : ∀ (l : List Int) (ws : List Nat), Wd ws → Wd (puts p ws l)
  | [], ws, h => h
  | i :: l, ws, h => by
    have := puts_wd p l (match p i with | some j => put1 ws j | none => ws) (by split <;> first | exact h | exact put1_wd h _)
    simpa only [puts, List.foldl_cons] using this
theorem puts_take (p : Int → Option Int) (ws : List Nat) {l : List Int} {k : Nat} {x : Int} (h : l[k]? = some x) : puts p ws (l.take (k + 1)) = match p x with | some j => put1 (puts p ws (l.take k)) j | none => puts p ws (l.take k) := by
  rw [List.take_add_one, h]
  simp [puts, List.foldl_append]

theorem wd_zero (n : Nat) : Wd (List.replicate n 0) := fun x hx => by simp at hx; omega

theorem or_place {W : List Nat} (hw : Wd W) {v : Int} (h : inW W v = true) : (uw W).set (0 + (v / 2 ^ (min (6 : Int).toNat IntKind.i64.bits)).toNat) [.int .u64 (bOr .u64 ((W.getD (0 + (v / 2 ^ (min (6 : Int).toNat IntKind.i64.bits)).toNat) 0 : Nat) : Int) ((2 ^ (v.toNat % 64) : Nat) : Int))] = uw (put1 W v) := by
  have e6 : v / 2 ^ (min (6 : Int).toNat IntKind.i64.bits) = v / 64 := rfl
  rw [e6, Nat.zero_add, bOr_u64 (getD_lt hw _) (pow_lt64 (Nat.mod_lt _ (by omega))), uw_set, put1, turn, if_pos h]

/-- A set of some places. -/
def ofN (n : Int) (l : List Int) : List Nat := puts (fun i => if i < n then some i else none) (List.replicate (wordsI n) 0) l



/-- Those from a place on, up to another one. -/
def partN (ws : List Nat) (a b : Int) : List Nat :=
  puts (fun i => if a ≤ i ∧ i < b then some (i - a) else none) (List.replicate (wordsI (b - a)) 0) ((bits ws).map fun (i : Nat) => (i : Int))
end
end Go.Proofs.Ytckbagpdahhiiaa
