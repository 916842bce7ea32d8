/- Sets of places: the functions that turn nothing. -/
import Derived.Test.YtefciekodhpefaaRows
import Derived.Test.YtefciekodhpefaaSy
namespace Go.Proofs.Ytefciekodhpefaa
open Go.RowKit
attribute [local irreducible] FS FO IT HS

theorem mixed : Try.prog.follows .mixedOrders = true := by kernel_rfl

/-- A set's words. -/
def uw (ws : List Nat) : List (List SV) := ws.map fun (x : Nat) => [.int .u64 (x : Int)]
def U (ws : List Nat) : SV := .slc 1 (uw ws)
def Wd (ws : List Nat) : Prop := ∀ x ∈ ws, x < 18446744073709551616
/-- Whether place i is in it. -/
def hasN (ws : List Nat) (i : Nat) : Bool := (ws.getD (i / 64) 0).testBit (i % 64)
def hasI (ws : List Nat) (i : Int) : Bool := decide (0 ≤ i) && hasN ws i.toNat
def inW (ws : List Nat) (i : Int) : Bool := decide (0 ≤ i) && decide (i / 64 < ws.length)
def wordsI (n : Int) : Nat := ((min (max n 0) 4096 + 63) / 64).toNat

theorem U_get {ws : List Nat} {k : Nat} {x : List SV} (h : (uw ws)[k]? = some x) : ∃ v : Nat, ws[k]? = some v ∧ x = [.int .u64 (v : Int)] := by
  rw [uw, List.getElem?_map, Option.map_eq_some_iff] at h
  obtain ⟨v, h1, rfl⟩ := h
  exact ⟨v, h1, rfl⟩

theorem and_pow (v k : Nat) : (v &&& 2 ^ k ≠ 0) ↔ v.testBit k = true := by
  constructor
  · intro h
    cases hb : v.testBit k with
    | true => rfl
    | false =>
      refine absurd (Nat.eq_of_testBit_eq fun j => ?_) h
      rw [Nat.testBit_and, Nat.testBit_two_pow, Nat.zero_testBit]
      by_cases e : k = j
      · subst e; simp [hb]
      · simp [e]
  · intro h e
    have := congrArg (fun x => x.testBit k) e
    simp [Nat.testBit_and, Nat.testBit_two_pow, h] at this

theorem hasI_of {ws : List Nat} {i : Int} {v : Nat} (h0 : 0 ≤ i) (hv : ws[(i / 64).toNat]? = some v) : hasI ws i = v.testBit (i.toNat % 64) := by
  have e : i.toNat / 64 = (i / 64).toNat := by omega
  simp [hasI, hasN, h0, List.getD_eq_getElem?_getD, e, hv]

theorem hasI_out {ws : List Nat} {i : Int} (h : inW ws i = false) : hasI ws i = false := by
  unfold inW at h
  unfold hasI hasN
  by_cases h0 : 0 ≤ i
  · have h1 : ¬ i / 64 < ws.length := by simpa [h0] using h
    have : ws.length ≤ i.toNat / 64 := by omega
    simp [List.getD_eq_getElem?_getD, List.getElem?_eq_none this]
  · simp [h0]

def ir_flags_within : IR :=
(.seq
 (.reg (⟨(some 4), .mv (.c (.bool false)), none⟩ ::
   []))
 (.seq
  (.reg (⟨(some 5), .mv (.t 1), none⟩ ::
    ⟨(some 6), .bin .geq (.t 5) (.c (.int .i64 0)), none⟩ ::
    ⟨(some 7), .mv (.t 6), none⟩ ::
    ⟨(some 8), .mv (.t 1), some (7, true)⟩ ::
    ⟨(some 9), .bin .shr (.t 8) (.c (.int .u64 6)), some (7, true)⟩ ::
    ⟨(some 10), .mv (.t 0), some (7, true)⟩ ::
    ⟨(some 11), .ln (.t 10), some (7, true)⟩ ::
    ⟨(some 12), .bin .lss (.t 9) (.t 11), some (7, true)⟩ ::
    ⟨(some 13), .pick (.t 7) (.t 12) (.c (.bool false)), none⟩ ::
    ⟨(some 4), .mv (.t 13), none⟩ ::
    []))
  .ret))
theorem cd_flags_within : Code1 Try.prog 49 14 ir_flags_within [.t 4] := ⟨Try.call49, _, _, Try.func49, rfl, by kernel_rfl, by kernel_rfl, by kernel_rfl, by kernel_rfl⟩

theorem fs_within (ws : List Nat) (i : Int) : FS Try.prog 49 [U ws, .int .i64 i] (.bool (inW ws i)) := by
  refine fs_of_cvc mixed cd_flags_within (by simp) ?_
  repeat' (conv => whnf); first
    | (refine Br.tt ?_)
    | (refine Br.ff ?_)
    | (refine Br.dec (fun h => ?_) (fun h => ?_)) <;> try (exfalso; omega)
    | (refine Br.neg ?_)
    | (refine Br.mk (fun h => ?_) (fun h => ?_))
    | (refine And.intro rfl ?_)
    | (refine And.intro (by omega) ?_)
    | (refine ⟨_, Or.inl ⟨⟨by omega, by omega⟩, rfl⟩, ?_⟩)
    | (refine And.intro (by simp only [List.length_map, List.length_replicate, List.length_set, List.length_append, List.length_take, List.length_drop, List.length_cons, List.length_nil]; first | done | omega) ?_)
    | (refine And.intro (Nat.le_refl _) ?_)
    | fail
  · show SV.bool _ = SV.bool _
    simp [inW, bits_i64, uw, *]
  · show SV.bool _ = SV.bool _
    simp [inW, *]

def ir_flags_bit : IR :=
(.seq
 (.reg (⟨(some 2), .mv (.c (.int .u64 0)), none⟩ ::
   []))
 (.seq
  (.reg (⟨(some 3), .mv (.t 0), none⟩ ::
    ⟨(some 4), .cv .u64 (.t 3), none⟩ ::
    ⟨(some 5), .bin .and (.t 4) (.c (.int .u64 63)), none⟩ ::
    ⟨(some 6), .bin .shl (.c (.int .u64 1)) (.t 5), none⟩ ::
    ⟨(some 2), .mv (.t 6), none⟩ ::
    []))
  .ret))
theorem cd_flags_bit : Code1 Try.prog 50 7 ir_flags_bit [.t 2] := ⟨Try.call50, _, _, Try.func50, rfl, by kernel_rfl, by kernel_rfl, by kernel_rfl, by kernel_rfl⟩

theorem fs_bit (i : Int) (h0 : 0 ≤ i) (h1 : i ≤ 9223372036854775807) : FS Try.prog 50 [.int .i64 i] (.int .u64 ((2 ^ (i.toNat % 64) : Nat) : Int)) := by
  refine fs_of_cvc mixed cd_flags_bit (by simp) ?_
  refine ⟨i, Or.inl ⟨⟨by omega, by omega⟩, rfl⟩, ?_⟩
  have e : bAnd .u64 i 63 = ((i.toNat % 64 : Nat) : Int) := by
    have := bAnd_u64 (x := i.toNat) (y := 63) (by omega) (by omega)
    rw [show (i.toNat &&& 63) = i.toNat % 64 from and_mask i.toNat 6] at this
    rw [← this]; congr 1; omega
  have hlt : i.toNat % 64 < 64 := Nat.mod_lt _ (by omega)
  have hp : 2 ^ (i.toNat % 64) < 2 ^ 64 := Nat.pow_lt_pow_right (by omega) hlt
  refine And.intro rfl ?_
  show 0 ≤ bAnd .u64 i 63 ∧ _
  rw [e]
  refine And.intro (by omega) ?_
  refine ⟨_, Or.inr rfl, ?_⟩
  show SV.int _ _ = SV.int _ _
  congr 1
  rw [bits_u64, Nat.min_eq_left (by simp; omega), Int.toNat_natCast]
  have : (1 : Int) * 2 ^ (i.toNat % 64) = ((2 ^ (i.toNat % 64) : Nat) : Int) := by simp
  rw [this]
  generalize 2 ^ (i.toNat % 64) = p at hp ⊢
  exact wrap_u64_id (by omega) (by omega)

def ir_flags_words : IR :=
(.seq
 (.reg (⟨(some 2), .mv (.c (.int .i64 0)), none⟩ ::
   []))
 (.seq
  (.reg (⟨(some 3), .mv (.t 0), none⟩ ::
    ⟨(some 4), .mm true [(.t 3), (.c (.int .i64 0))], none⟩ ::
    ⟨(some 5), .mm false [(.t 4), (.c (.int .i64 4096))], none⟩ ::
    ⟨(some 6), .bin .add (.t 5) (.c (.int .i64 63)), none⟩ ::
    ⟨(some 7), .bin .shr (.t 6) (.c (.int .u64 6)), none⟩ ::
    ⟨(some 2), .mv (.t 7), none⟩ ::
    []))
  .ret))
theorem cd_flags_words : Code1 Try.prog 47 8 ir_flags_words [.t 2] := ⟨Try.call47, _, _, Try.func47, rfl, by kernel_rfl, by kernel_rfl, by kernel_rfl, by kernel_rfl⟩

theorem fs_words (n : Int) (h0 : -9223372036854775808 ≤ n) (h1 : n ≤ 9223372036854775807) : FS Try.prog 47 [.int .i64 n] (.int .i64 (wordsI n)) := by
  refine fs_of_cvc mixed cd_flags_words (by simp) ?_
  refine And.intro rfl ?_
  refine ⟨_, Or.inl ⟨⟨?_, ?_⟩, rfl⟩, ?_⟩
  · show _ ≤ min (max n 0) 4096 + 63
    omega
  · show min (max n 0) 4096 + 63 ≤ _
    omega
  refine And.intro (by omega) ?_
  show SV.int _ _ = SV.int _ _
  congr 1
  show (min (max n 0) 4096 + 63) / 64 = _
  unfold wordsI
  omega

def ir_flags_Has : IR :=
(.seq
 (.reg (⟨(some 4), .mv (.c (.bool false)), none⟩ ::
   []))
 (.seq
  (.draw (⟨(some 5), .mv (.t 0), none⟩ ::
    ⟨(some 6), .mv (.t 1), none⟩ ::
    ⟨(some 7), .call (.c (.fn 49 [])) [(.t 5), (.t 6)], none⟩ ::
    ⟨(some 8), .mv (.t 7), none⟩ ::
    ⟨(some 9), .mv (.t 0), some (8, true)⟩ ::
    ⟨(some 10), .mv (.t 1), some (8, true)⟩ ::
    ⟨(some 11), .bin .shr (.t 10) (.c (.int .u64 6)), some (8, true)⟩ ::
    ⟨(some 12), .ia 1 (.t 9) (.t 11), some (8, true)⟩ ::
    ⟨(some 13), .ld 1 false (.t 12), some (8, true)⟩ ::
    ⟨(some 14), .mv (.t 1), some (8, true)⟩ ::
    ⟨(some 15), .call (.c (.fn 50 [])) [(.t 14)], some (8, true)⟩ ::
    ⟨(some 16), .bin .and (.t 13) (.t 15), some (8, true)⟩ ::
    ⟨(some 17), .bin .neq (.t 16) (.c (.int .u64 0)), some (8, true)⟩ ::
    ⟨(some 18), .pick (.t 8) (.t 17) (.c (.bool false)), none⟩ ::
    ⟨(some 4), .mv (.t 18), none⟩ ::
    [])
   ([]))
  .ret))
theorem cd_flags_Has : Code1 Try.prog 19 19 ir_flags_Has [.t 4] := ⟨Try.call19, _, _, Try.func19, rfl, by kernel_rfl, by kernel_rfl, by kernel_rfl, by kernel_rfl⟩

theorem fs_Has (ws : List Nat) (hw : Wd ws) (i : Int) (h1 : i ≤ 9223372036854775807) : FS Try.prog 19 [U ws, .int .i64 i] (.bool (hasI ws i)) := by
  refine fs_of_cvc mixed cd_flags_Has (by simp) ?_
  refine (Or.inl ⟨rfl, _, fs_within ws i, ?_⟩)
  refine ⟨fun h => ?_, fun h => ?_⟩
  · have h0 : 0 ≤ i := by simp [inW] at h; exact h.1
    have h2 : i / 64 < ws.length := by simp [inW] at h; exact h.2
    have e6 : i / 2 ^ (min (6 : Int).toNat IntKind.i64.bits) = i / 64 := rfl
    refine Br.tt (Br.tt (And.intro (by omega) (Br.tt (And.intro rfl (And.intro ?_ (And.intro ?_ fun x hx => ?_))))))
    · rw [e6]; omega
    · rw [e6]; simp [uw]; omega
    obtain ⟨v, hv, rfl⟩ := U_get hx
    rw [e6] at hv
    have hvw := hw v (List.mem_of_getElem? hv)
    refine Br.tt (Br.tt (Br.tt ((Or.inl ⟨rfl, _, fs_bit i h0 h1, ?_⟩))))
    refine Br.tt (And.intro rfl (Br.tt (And.intro rfl ?_)))
    show SV.bool (decide (bAnd .u64 (v : Int) ((2 ^ (i.toNat % 64) : Nat) : Int) ≠ 0)) = _
    have hlt : i.toNat % 64 < 64 := Nat.mod_lt _ (by omega)
    have hp : 2 ^ (i.toNat % 64) < 2 ^ 64 := Nat.pow_lt_pow_right (by omega) hlt
    rw [bAnd_u64 hvw (by simpa using hp), hasI_of h0 hv]
    congr 1
    have := and_pow v (i.toNat % 64)
    rw [Bool.eq_iff_iff, ← this]
    simp
  · repeat refine Br.ff ?_
    show SV.bool _ = SV.bool _
    rw [hasI_out h]

def ir_flags_New : IR :=
(.seq
 (.reg (⟨(some 2), .mv (.c (.nils)), none⟩ ::
   []))
 (.seq
  (.reg (⟨(some 3), .mv (.t 0), none⟩ ::
    ⟨(some 4), .call (.c (.fn 47 [])) [(.t 3)], none⟩ ::
    ⟨(some 5), .mk 1 8 [.int .u64 0] (.t 4) (.t 4), none⟩ ::
    ⟨(some 2), .mv (.t 5), none⟩ ::
    []))
  .ret))
theorem cd_flags_New : Code1 Try.prog 13 6 ir_flags_New [.t 2] := ⟨Try.call13, _, _, Try.func13, rfl, by kernel_rfl, by kernel_rfl, by kernel_rfl, by kernel_rfl⟩

theorem fo_New (n : Int) (h0 : -9223372036854775808 ≤ n) (h1 : n ≤ 9223372036854775807) : FO Try.prog 13 [.int .i64 n] (.osl 0 1 0 (wordsI n)) [.arr 1 (uw (List.replicate (wordsI n) 0))] := by
  refine fo_of_cvc mixed cd_flags_New (by simp) ?_
  have hw : wordsI n ≤ 64 := by unfold wordsI; omega
  refine Or.inl ⟨rfl, _, fs_words n h0 h1, ?_⟩
  refine ⟨by omega, Int.le_refl _, by omega, by omega, rfl, ?_⟩
  refine Or.inl ⟨[0], rfl, ?_, by simp, rfl, rfl⟩
  show [some (Blk.arr 1 (List.replicate (wordsI n : Int).toNat [.int .u64 0]))] = _
  simp [uw]

theorem scal (ws : List Nat) : ∀ y ∈ uw ws, scalarL y = true := by
  intro y hy
  obtain ⟨v, _, rfl⟩ := List.mem_map.1 hy
  rfl

theorem U_len (ws : List Nat) : (uw ws).length = ws.length := by simp [uw]

def ir_slices_Clone_uint64_uint64 : IR :=
(.seq
 (.reg (⟨(some 2), .mv (.c (.nils)), none⟩ ::
   []))
 (.seq
  (.seq
   (.reg (⟨(some 3), .mv (.t 0), none⟩ ::
     ⟨(some 4), .isn false (.t 3), none⟩ ::
     []))
   (.cond (.t 4)
    (.seq
     (.reg (⟨(some 2), .mv (.c (.nils)), none⟩ ::
       []))
     .ret)
    .skip))
  (.seq
   (.reg (⟨(some 5), .bsl 0 1 [.int .u64 0] [], none⟩ ::
     ⟨(some 6), .mv (.t 0), none⟩ ::
     ⟨(some 7), .ap 1 8 (.t 5) (.t 6), none⟩ ::
     ⟨(some 2), .mv (.t 7), none⟩ ::
     []))
   .ret)))
theorem cd_slices_Clone_uint64_uint64 : Code1 Try.prog 51 8 ir_slices_Clone_uint64_uint64 [.t 2] := ⟨Try.call51, _, _, Try.func51, rfl, by kernel_rfl, by kernel_rfl, by kernel_rfl, by kernel_rfl⟩

theorem fo_Clone (ws : List Nat) (hl : ws.length ≤ 1000000) : FO Try.prog 51 [U ws] (.osl 0 1 0 ws.length) [.arr 1 (uw ws)] := by
  refine fo_of_cvc mixed cd_slices_Clone_uint64_uint64 (by simp) ?_
  have go : ∀ (H : List Blk), H = [] → FoP (H ++ [.arr 1 (uw ws)]) (.osl H.length 1 0 (uw ws).length) (.osl 0 1 0 ws.length) [.arr 1 (uw ws)] := by
    rintro _ rfl
    refine Or.inl ⟨[0], ?_, rfl, by simp, rfl, rfl⟩
    show SV.osl 0 1 0 ws.length = SV.osl 0 1 0 (uw ws).length
    rw [U_len]
  have hlen := U_len ws
  refine ⟨fun h => ?_, fun h => ?_⟩
  · refine Br.ff ?_
    refine ⟨rfl, rfl, by omega, by omega, scal ws, ?_⟩
    exact go [] rfl
  · refine ⟨?_, ?_⟩
    · have hw : ws = [] := by simpa [uw] using h
      subst hw
      exact Or.inr ⟨rfl, 1, rfl, rfl⟩
    · refine ⟨rfl, rfl, by omega, by omega, scal ws, ?_⟩
      exact go [] rfl

/-- One word turned. -/
def turn (ws : List Nat) (i : Int) (f : Nat → Nat → Nat) : List Nat := if inW ws i then ws.set (i / 64).toNat (f (ws.getD (i / 64).toNat 0) (2 ^ (i.toNat % 64))) else ws
theorem turn_length (ws : List Nat) (i : Int) (f : Nat → Nat → Nat) : (turn ws i f).length = ws.length := by
  unfold turn; split <;> simp
theorem frz_U {ws : List Nat} {n : Nat} (hn : n = ws.length) : SV.slc 1 (((uw ws).drop 0).take n) = U ws := by
  subst hn
  rw [List.drop_zero, List.take_of_length_le (by rw [U_len]; exact Nat.le_refl _)]
  rfl
theorem uw_set (ws : List Nat) (k v : Nat) : (uw ws).set k [.int .u64 (v : Int)] = uw (ws.set k v) := by
  unfold uw
  rw [← List.map_set]

def ir_flags_Put : IR :=
(.seq
 (.reg (⟨(some 4), .mv (.c (.nils)), none⟩ ::
   []))
 (.seq
  (.reg (⟨(some 6), .mv (.t 0), none⟩ ::
    ⟨(some 7), .call (.c (.fn 51 [])) [(.t 6)], none⟩ ::
    ⟨(some 5), .mv (.t 7), none⟩ ::
    []))
  (.seq
   (.seq
    (.reg (⟨(some 8), .mv (.t 0), none⟩ ::
      ⟨(some 9), .mv (.t 1), none⟩ ::
      ⟨(some 10), .call (.c (.fn 49 [])) [(.t 8), (.t 9)], none⟩ ::
      []))
    (.cond (.t 10)
     (.draw (⟨(some 11), .mv (.t 5), none⟩ ::
       ⟨(some 12), .mv (.t 1), none⟩ ::
       ⟨(some 13), .bin .shr (.t 12) (.c (.int .u64 6)), none⟩ ::
       ⟨(some 14), .ia 1 (.t 11) (.t 13), none⟩ ::
       ⟨(some 15), .ld 1 false (.t 14), none⟩ ::
       ⟨(some 16), .mv (.t 1), none⟩ ::
       ⟨(some 17), .call (.c (.fn 50 [])) [(.t 16)], none⟩ ::
       ⟨(some 18), .bin .or (.t 15) (.t 17), none⟩ ::
       ⟨(some 19), .ia 1 (.t 11) (.t 13), none⟩ ::
       [])
      (⟨none, .st 1 (.t 19) (.t 18), none⟩ ::
       []))
     .skip))
   (.seq
    (.reg (⟨(some 20), .mv (.t 5), none⟩ ::
      ⟨(some 4), .mv (.t 20), none⟩ ::
      []))
    .ret))))
theorem cd_flags_Put : Code1 Try.prog 21 21 ir_flags_Put [.t 4] := ⟨Try.call21, _, _, Try.func21, rfl, by kernel_rfl, by kernel_rfl, by kernel_rfl, by kernel_rfl⟩

theorem fs_Put (ws : List Nat) (hw : Wd ws) (hl : ws.length ≤ 1000000) (i : Int) (h1 : i ≤ 9223372036854775807) : FS Try.prog 21 [U ws, .int .i64 i] (U (turn ws i (· ||| ·))) := by
  refine fs_of_cvc mixed cd_flags_Put (by simp) ?_
  refine Or.inr (Or.inl ⟨rfl, _, _, fo_Clone ws hl, ?_⟩)
  refine Or.inl ⟨rfl, _, fs_within ws i, ?_⟩
  refine ⟨fun h => ?_, fun h => ?_⟩
  · have h0 : 0 ≤ i := by simp [inW] at h; exact h.1
    have h2 : i / 64 < ws.length := by simp [inW] at h; exact h.2
    have e6 : i / 2 ^ (min (6 : Int).toNat IntKind.i64.bits) = i / 64 := rfl
    obtain ⟨v, hv⟩ : ∃ v, ws[(i / 64).toNat]? = some v := ⟨_, List.getElem?_eq_getElem (by omega)⟩
    have hvw := hw v (List.mem_of_getElem? hv)
    have hx : (uw ws)[0 + (i / 64).toNat]? = some [.int .u64 (v : Int)] := by rw [Nat.zero_add, uw, List.getElem?_map, hv]; rfl
    have hlt : i.toNat % 64 < 64 := Nat.mod_lt _ (by omega)
    have hp : 2 ^ (i.toNat % 64) < 2 ^ 64 := Nat.pow_lt_pow_right (by omega) hlt
    refine And.intro (by omega) ⟨rfl, ?_, ?_, rfl, _, hx, ?_⟩
    · rw [e6]; omega
    · rw [e6]; omega
    refine (Or.inl ⟨rfl, _, fs_bit i h0 h1, ?_⟩)
    refine And.intro rfl ⟨rfl, ?_, ?_, ?_⟩
    · rw [e6]; omega
    · rw [e6]; omega
    refine ⟨rfl, rfl, rfl, rfl, by omega, _, hx, ?_⟩
    refine ⟨rfl, ?_, ?_⟩
    · show 0 + ws.length ≤ ((uw ws).set _ _).length
      rw [List.length_set, U_len]; omega
    show SV.slc 1 ((((uw ws).set (0 + (i / 64).toNat) [.int .u64 (bOr .u64 (v : Int) ((2 ^ (i.toNat % 64) : Nat) : Int))]).drop 0).take ws.length) = U _
    rw [bOr_u64 hvw (by simpa using hp), uw_set, frz_U (by simp), Nat.zero_add]
    simp [turn, h, List.getD_eq_getElem?_getD, hv]
  · refine ⟨rfl, ?_, ?_⟩
    · show 0 + ws.length ≤ (uw ws).length
      rw [U_len]; omega
    show SV.slc 1 (((uw ws).drop 0).take ws.length) = U _
    rw [frz_U rfl]
    simp [turn, h]

def ir_flags_Drop : IR :=
(.seq
 (.reg (⟨(some 4), .mv (.c (.nils)), none⟩ ::
   []))
 (.seq
  (.reg (⟨(some 6), .mv (.t 0), none⟩ ::
    ⟨(some 7), .call (.c (.fn 51 [])) [(.t 6)], none⟩ ::
    ⟨(some 5), .mv (.t 7), none⟩ ::
    []))
  (.seq
   (.seq
    (.reg (⟨(some 8), .mv (.t 0), none⟩ ::
      ⟨(some 9), .mv (.t 1), none⟩ ::
      ⟨(some 10), .call (.c (.fn 49 [])) [(.t 8), (.t 9)], none⟩ ::
      []))
    (.cond (.t 10)
     (.draw (⟨(some 11), .mv (.t 5), none⟩ ::
       ⟨(some 12), .mv (.t 1), none⟩ ::
       ⟨(some 13), .bin .shr (.t 12) (.c (.int .u64 6)), none⟩ ::
       ⟨(some 14), .ia 1 (.t 11) (.t 13), none⟩ ::
       ⟨(some 15), .ld 1 false (.t 14), none⟩ ::
       ⟨(some 16), .mv (.t 1), none⟩ ::
       ⟨(some 17), .call (.c (.fn 50 [])) [(.t 16)], none⟩ ::
       ⟨(some 18), .bin .andNot (.t 15) (.t 17), none⟩ ::
       ⟨(some 19), .ia 1 (.t 11) (.t 13), none⟩ ::
       [])
      (⟨none, .st 1 (.t 19) (.t 18), none⟩ ::
       []))
     .skip))
   (.seq
    (.reg (⟨(some 20), .mv (.t 5), none⟩ ::
      ⟨(some 4), .mv (.t 20), none⟩ ::
      []))
    .ret))))
theorem cd_flags_Drop : Code1 Try.prog 23 21 ir_flags_Drop [.t 4] := ⟨Try.call23, _, _, Try.func23, rfl, by kernel_rfl, by kernel_rfl, by kernel_rfl, by kernel_rfl⟩

theorem fs_Drop (ws : List Nat) (hw : Wd ws) (hl : ws.length ≤ 1000000) (i : Int) (h1 : i ≤ 9223372036854775807) : FS Try.prog 23 [U ws, .int .i64 i] (U (turn ws i natAndNot)) := by
  refine fs_of_cvc mixed cd_flags_Drop (by simp) ?_
  refine Or.inr (Or.inl ⟨rfl, _, _, fo_Clone ws hl, ?_⟩)
  refine Or.inl ⟨rfl, _, fs_within ws i, ?_⟩
  refine ⟨fun h => ?_, fun h => ?_⟩
  · have h0 : 0 ≤ i := by simp [inW] at h; exact h.1
    have h2 : i / 64 < ws.length := by simp [inW] at h; exact h.2
    have e6 : i / 2 ^ (min (6 : Int).toNat IntKind.i64.bits) = i / 64 := rfl
    obtain ⟨v, hv⟩ : ∃ v, ws[(i / 64).toNat]? = some v := ⟨_, List.getElem?_eq_getElem (by omega)⟩
    have hvw := hw v (List.mem_of_getElem? hv)
    have hx : (uw ws)[0 + (i / 64).toNat]? = some [.int .u64 (v : Int)] := by rw [Nat.zero_add, uw, List.getElem?_map, hv]; rfl
    have hlt : i.toNat % 64 < 64 := Nat.mod_lt _ (by omega)
    have hp : 2 ^ (i.toNat % 64) < 2 ^ 64 := Nat.pow_lt_pow_right (by omega) hlt
    refine And.intro (by omega) ⟨rfl, ?_, ?_, rfl, _, hx, ?_⟩
    · rw [e6]; omega
    · rw [e6]; omega
    refine (Or.inl ⟨rfl, _, fs_bit i h0 h1, ?_⟩)
    refine And.intro rfl ⟨rfl, ?_, ?_, ?_⟩
    · rw [e6]; omega
    · rw [e6]; omega
    refine ⟨rfl, rfl, rfl, rfl, by omega, _, hx, ?_⟩
    refine ⟨rfl, ?_, ?_⟩
    · show 0 + ws.length ≤ ((uw ws).set _ _).length
      rw [List.length_set, U_len]; omega
    show SV.slc 1 ((((uw ws).set (0 + (i / 64).toNat) [.int .u64 (bAndNot .u64 (v : Int) ((2 ^ (i.toNat % 64) : Nat) : Int))]).drop 0).take ws.length) = U _
    rw [bAndNot_u64 hvw (by simpa using hp), uw_set, frz_U (by simp), Nat.zero_add]
    simp [turn, h, List.getD_eq_getElem?_getD, hv]
  · refine ⟨rfl, ?_, ?_⟩
    · show 0 + ws.length ≤ (uw ws).length
      rw [U_len]; omega
    show SV.slc 1 (((uw ws).drop 0).take ws.length) = U _
    rw [frz_U rfl]
    simp [turn, h]

end Go.Proofs.Ytefciekodhpefaa
