/- Sets of places: ranks, lists, parts. -/
import Derived.Test.YtefciekodhpefaaFe
namespace Go.Proofs.Ytefciekodhpefaa
open Go.RowKit
attribute [local irreducible] FS FO IT HS

/-- How many places there are below one, as it is reckoned. -/
def rankC (ws : List Nat) (i : Int) : Nat :=
  if i ≤ 0 then 0 else if ws.length ≤ i / 64 then cnt ws else cnt (ws.take (i / 64).toNat) + pc (ws.getD (i / 64).toNat 0 % 2 ^ (i.toNat % 64))

theorem uw_take (ws : List Nat) (k : Nat) : (uw ws).take k = uw (ws.take k) := by simp [uw, List.map_take]

def ir_flags_Rank : IR :=
(.seq
 (.reg (⟨(some 4), .mv (.c (.int .i64 0)), none⟩ ::
   []))
 (.seq
  (.block 0
   (.seq
    (.reg (⟨(some 6), .mv (.t 1), none⟩ ::
      ⟨(some 7), .bin .leq (.t 6) (.c (.int .i64 0)), none⟩ ::
      ⟨(some 5), .mv (.t 7), none⟩ ::
      []))
    (.cond (.t 5)
     (.seq
      (.reg (⟨(some 4), .mv (.c (.int .i64 0)), none⟩ ::
        []))
      .ret)
     (.seq
      (.reg (⟨(some 9), .mv (.t 1), none⟩ ::
        ⟨(some 10), .bin .shr (.t 9) (.c (.int .u64 6)), none⟩ ::
        ⟨(some 11), .mv (.t 0), none⟩ ::
        ⟨(some 12), .ln (.t 11), none⟩ ::
        ⟨(some 13), .bin .geq (.t 10) (.t 12), none⟩ ::
        ⟨(some 8), .mv (.t 13), none⟩ ::
        []))
      (.cond (.t 8)
       (.seq
        (.reg (⟨(some 14), .mv (.t 0), none⟩ ::
          ⟨(some 15), .call (.c (.fn 26 [])) [(.t 14)], none⟩ ::
          ⟨(some 4), .mv (.t 15), none⟩ ::
          []))
        .ret)
       .skip)))))
  (.seq
   (.draw (⟨(some 16), .mv (.t 0), none⟩ ::
     ⟨(some 17), .mv (.t 1), none⟩ ::
     ⟨(some 18), .bin .shr (.t 17) (.c (.int .u64 6)), none⟩ ::
     ⟨(some 19), .sl 1 (.t 16) none (some (.t 18)) none, none⟩ ::
     ⟨(some 20), .call (.c (.fn 26 [])) [(.t 19)], none⟩ ::
     ⟨(some 21), .mv (.t 0), none⟩ ::
     ⟨(some 22), .mv (.t 1), none⟩ ::
     ⟨(some 23), .bin .shr (.t 22) (.c (.int .u64 6)), none⟩ ::
     ⟨(some 24), .ia 1 (.t 21) (.t 23), none⟩ ::
     ⟨(some 25), .ld 1 false (.t 24), none⟩ ::
     ⟨(some 26), .mv (.t 1), none⟩ ::
     ⟨(some 27), .call (.c (.fn 50 [])) [(.t 26)], none⟩ ::
     ⟨(some 28), .bin .sub (.t 27) (.c (.int .u64 1)), none⟩ ::
     ⟨(some 29), .bin .and (.t 25) (.t 28), none⟩ ::
     ⟨(some 30), .call (.c (.fn 53 [])) [(.t 29)], none⟩ ::
     ⟨(some 31), .bin .add (.t 20) (.t 30), none⟩ ::
     ⟨(some 4), .mv (.t 31), none⟩ ::
     [])
    ([]))
   .ret)))
theorem cd_flags_Rank : Code1 Try.prog 27 32 ir_flags_Rank [.t 4] := ⟨Try.call27, _, _, Try.func27, rfl, by kernel_rfl, by kernel_rfl, by kernel_rfl, by kernel_rfl⟩

theorem fs_Rank (ws : List Nat) (hw : Wd ws) (hl : ws.length ≤ 1000000) (i : Int) (h1 : i ≤ 9223372036854775807) : FS Try.prog 27 [U ws, .int .i64 i] (.int .i64 (rankC ws i : Int)) := by
  refine fs_of_cvc mixed cd_flags_Rank (by simp) ?_
  have e6 : i / 2 ^ (min (6 : Int).toNat IntKind.i64.bits) = i / 64 := rfl
  repeat' (conv => whnf); first
    | ((refine fun x hx => ?_); (obtain ⟨v, hv, rfl⟩ := U_get hx))
    | ((refine And.intro rfl (And.intro (by simp only [U_len, tab_len, List.length_set]; omega) ?_)))
    | (refine Br.tt ?_)
    | (refine Br.ff ?_)
    | (refine Br.dec (fun h => ?_) (fun h => ?_)) <;> try (exfalso; omega)
    | (refine Br.neg ?_)
    | (refine Br.mk (fun h => ?_) (fun h => ?_))
    | (refine And.intro rfl ?_)
    | (refine And.intro (by omega) ?_)
    | (refine ⟨_, Or.inl ⟨⟨by omega, by omega⟩, rfl⟩, ?_⟩)
    | (refine And.intro (by simp only [List.length_map, List.length_replicate, List.length_set, List.length_append, List.length_take, List.length_drop, List.length_cons, List.length_nil, U_len, tab_len, ints_len]; first | done | omega) ?_)
    | (refine And.intro (Nat.le_refl _) ?_)
    | fail
  · show SV.int _ 0 = _
    rw [rankC, if_pos (by omega)]; rfl
  · refine Or.inl ⟨rfl, _, fs_Count ws hw hl, ?_⟩
    show SV.int _ _ = _
    rename_i h2
    rw [U_len] at h
    rw [rankC, if_neg h2, if_pos (by rw [e6] at h; omega)]
  · rename_i h2
    rw [U_len] at h
    have hlt : i / 64 < ws.length := by rw [e6] at h; omega
    have hb := pow_lt64 (Nat.mod_lt i.toNat (show 64 > 0 by omega))
    have hpos : 0 < 2 ^ (i.toNat % 64) := Nat.pow_pos (by omega)
    refine Or.inl ⟨rfl, _, fs_le (fs_Count (ws.take (i / 64).toNat) (wd_take hw _) (by simp; omega)) ⟨?_, trivial⟩, ?_⟩
    · show SV.slc 1 (List.drop 0 (List.take _ (uw ws))) = _
      rw [List.drop_zero, uw_take]; rfl
    repeat' (conv => whnf); first
      | ((refine fun x hx => ?_); (obtain ⟨v, hv, rfl⟩ := U_get hx))
      | ((refine And.intro rfl (And.intro (by simp only [U_len, tab_len, List.length_set]; omega) ?_)))
      | (refine Br.tt ?_)
      | (refine Br.ff ?_)
      | (refine Br.dec (fun h => ?_) (fun h => ?_)) <;> try (exfalso; omega)
      | (refine Br.neg ?_)
      | (refine Br.mk (fun h => ?_) (fun h => ?_))
      | (refine And.intro rfl ?_)
      | (refine And.intro (by omega) ?_)
      | (refine ⟨_, Or.inl ⟨⟨by omega, by omega⟩, rfl⟩, ?_⟩)
      | (refine And.intro (by simp only [List.length_map, List.length_replicate, List.length_set, List.length_append, List.length_take, List.length_drop, List.length_cons, List.length_nil, U_len, tab_len, ints_len]; first | done | omega) ?_)
      | (refine And.intro (Nat.le_refl _) ?_)
      | fail
    rw [e6] at hv
    have hvw := hw v (List.mem_of_getElem? hv)
    refine Or.inl ⟨rfl, _, fs_bit i (by omega) h1, ?_⟩
    have hc1 := cnt_le _ (wd_take hw (i / 64).toNat)
    have htl : (ws.take (i / 64).toNat).length ≤ ws.length := by simp; omega
    have e3 : bAnd .u64 (v : Int) (((2 ^ (i.toNat % 64) : Nat) : Int) - 1) = ((v % 2 ^ (i.toNat % 64) : Nat) : Int) := by
      rw [show (((2 ^ (i.toNat % 64) : Nat) : Int) - 1) = ((2 ^ (i.toNat % 64) - 1 : Nat) : Int) by omega, bAnd_u64 hvw (by omega), and_mask]
    have hvm : v % 2 ^ (i.toNat % 64) < 18446744073709551616 := Nat.lt_of_le_of_lt (Nat.mod_le _ _) hvw
    have hp2 := pc_le 64 (v % 2 ^ (i.toNat % 64)) (by simpa using hvm)
    repeat' (conv => whnf); first
      | ((refine fun x hx => ?_); (obtain ⟨v, hv, rfl⟩ := U_get hx))
      | ((refine And.intro rfl (And.intro (by simp only [U_len, tab_len, List.length_set]; omega) ?_)))
      | (refine Br.tt ?_)
      | (refine Br.ff ?_)
      | (refine Br.dec (fun h => ?_) (fun h => ?_)) <;> try (exfalso; omega)
      | (refine Br.neg ?_)
      | (refine Br.mk (fun h => ?_) (fun h => ?_))
      | (refine And.intro rfl ?_)
      | (refine And.intro (by omega) ?_)
      | (refine ⟨_, Or.inl ⟨⟨by omega, by omega⟩, rfl⟩, ?_⟩)
      | (refine And.intro (by simp only [List.length_map, List.length_replicate, List.length_set, List.length_append, List.length_take, List.length_drop, List.length_cons, List.length_nil, U_len, tab_len, ints_len]; first | done | omega) ?_)
      | (refine And.intro (Nat.le_refl _) ?_)
      | fail
    refine Or.inl ⟨rfl, _, fs_le (fs_ones _ hvm) ⟨?_, trivial⟩, ?_⟩
    · exact congrArg (SV.int .u64) e3
    repeat' (conv => whnf); first
      | ((refine fun x hx => ?_); (obtain ⟨v, hv, rfl⟩ := U_get hx))
      | ((refine And.intro rfl (And.intro (by simp only [U_len, tab_len, List.length_set]; omega) ?_)))
      | (refine Br.tt ?_)
      | (refine Br.ff ?_)
      | (refine Br.dec (fun h => ?_) (fun h => ?_)) <;> try (exfalso; omega)
      | (refine Br.neg ?_)
      | (refine Br.mk (fun h => ?_) (fun h => ?_))
      | (refine And.intro rfl ?_)
      | (refine And.intro (by omega) ?_)
      | (refine ⟨_, Or.inl ⟨⟨by omega, by omega⟩, rfl⟩, ?_⟩)
      | (refine And.intro (by simp only [List.length_map, List.length_replicate, List.length_set, List.length_append, List.length_take, List.length_drop, List.length_cons, List.length_nil, U_len, tab_len, ints_len]; first | done | omega) ?_)
      | (refine And.intro (Nat.le_refl _) ?_)
      | fail
    show SV.int _ ((cnt (ws.take (i / 64).toNat) : Int) + (pc (v % 2 ^ (i.toNat % 64)) : Int)) = _
    rw [rankC, if_neg h2, if_neg (by omega), List.getD_eq_getElem?_getD, hv]
    rfl

theorem find_at {α : Type} {p : α → Bool} {x : α} : ∀ {l : List α} {k : Nat}, l[k]? = some x → p x = true → (∀ (j : Nat) (y : α), j < k → l[j]? = some y → p y = false) → l.find? p = some x
  | [], k, h, _, _ => by simp at h
  | y :: l, 0, h, hp, _ => by simp at h; subst h; simp [List.find?, hp]
  | y :: l, k + 1, h, hp, hn => by
    have h0 := hn 0 y (by omega) rfl
    rw [List.find?_cons_of_neg (by simp [h0])]
    exact find_at (l := l) (k := k) (by simpa using h) hp fun j z hj hz => hn (j + 1) z (by omega) (by simpa using hz)

/-- The first place from one on. -/
def nextI (ws : List Nat) (i : Int) : Int := match (bits ws).find? (fun (b : Nat) => decide (i ≤ (b : Int))) with
  | some b => b
  | none => -1

theorem ints_get' {l : List Nat} {k : Nat} {x : List SV} (h : (ints l)[k]? = some x) : ∃ v : Nat, l[k]? = some v ∧ x = [.int .i64 (v : Int)] := by
  rw [ints, List.getElem?_map, Option.map_eq_some_iff] at h
  obtain ⟨v, h1, rfl⟩ := h
  exact ⟨v, h1, rfl⟩

def ir_flags_Next : IR :=
(.seq
 (.reg (⟨(some 3), .bx (.t 1), none⟩ ::
   ⟨(some 4), .al [.int .i64 0], none⟩ ::
   []))
 (.seq
  (.seq
   (.reg (⟨(some 6), .mv (.t 0), none⟩ ::
     ⟨(some 7), .call (.c (.fn 54 [])) [(.t 6)], none⟩ ::
     []))
   (.block 0
    (.rng (.t 7) [8]
     (.reg (⟨(some 5), .mv (.t 8), none⟩ ::
       []))
     (.block 1
      (.seq
       (.reg (⟨(some 9), .mv (.t 5), none⟩ ::
         ⟨(some 10), .ld 1 false (.t 3), none⟩ ::
         ⟨(some 11), .bin .geq (.t 9) (.t 10), none⟩ ::
         []))
       (.cond (.t 11)
        (.seq
         (.reg (⟨(some 12), .mv (.t 5), none⟩ ::
           ⟨none, .st 1 (.t 4) (.t 12), none⟩ ::
           []))
         .ret)
        .skip))))))
  (.seq
   (.reg (⟨none, .st 1 (.t 4) (.c (.int .i64 (-1))), none⟩ ::
     []))
   .ret)))
theorem cd_flags_Next : Code1 Try.prog 29 13 ir_flags_Next [.c 1 false 4] := ⟨Try.call29, _, _, Try.func29, rfl, by kernel_rfl, by kernel_rfl, by kernel_rfl, by kernel_rfl⟩

theorem fs_Next (ws : List Nat) (hw : Wd ws) (hl : ws.length ≤ 1000000) (i : Int) : FS Try.prog 29 [U ws, .int .i64 i] (.int .i64 (nextI ws i)) := by
  refine fs_of_cvc mixed cd_flags_Next (by simp) ?_
  repeat' (conv => whnf); first
    | ((refine fun x hx => ?_); (obtain ⟨v, hv, rfl⟩ := U_get hx))
    | ((refine And.intro rfl (And.intro (by simp only [U_len, tab_len, List.length_set]; omega) ?_)))
    | (refine Br.tt ?_)
    | (refine Br.ff ?_)
    | (refine Br.dec (fun h => ?_) (fun h => ?_)) <;> try (exfalso; omega)
    | (refine Br.neg ?_)
    | (refine Br.mk (fun h => ?_) (fun h => ?_))
    | (refine And.intro rfl ?_)
    | (refine And.intro (by omega) ?_)
    | (refine ⟨_, Or.inl ⟨⟨by omega, by omega⟩, rfl⟩, ?_⟩)
    | (refine And.intro (by simp only [List.length_map, List.length_replicate, List.length_set, List.length_append, List.length_take, List.length_drop, List.length_cons, List.length_nil, U_len, tab_len, ints_len]; first | done | omega) ?_)
    | (refine And.intro (Nat.le_refl _) ?_)
    | fail
  refine Or.inl ⟨rfl, _, fs_each ws, ?_⟩
  refine ⟨rfl, [], [], [.box [U ws] 0], [], ints (bits ws), fun _ => [.vars [.int .i64 i], .vars [.int .i64 0]], fun k => ∀ b ∈ (bits ws).take k, (b : Int) < i, it_each ws hw hl, rfl, rfl, rfl, rfl, List.nodup_nil, by simp, ⟨⟨rfl, trivial⟩, ⟨rfl, trivial⟩, trivial⟩, by simp, fun k x hx hok => ?_, fun hok => ?_⟩
  · obtain ⟨b, hb, rfl⟩ := ints_get' hx
    refine ⟨rfl, ?_⟩
    repeat' (conv => whnf); first
      | ((refine fun x hx => ?_); (obtain ⟨v, hv, rfl⟩ := U_get hx))
      | ((refine And.intro rfl (And.intro (by simp only [U_len, tab_len, List.length_set]; omega) ?_)))
      | (refine Br.tt ?_)
      | (refine Br.ff ?_)
      | (refine Br.dec (fun h => ?_) (fun h => ?_)) <;> try (exfalso; omega)
      | (refine Br.neg ?_)
      | (refine Br.mk (fun h => ?_) (fun h => ?_))
      | (refine And.intro rfl ?_)
      | (refine And.intro (by omega) ?_)
      | (refine ⟨_, Or.inl ⟨⟨by omega, by omega⟩, rfl⟩, ?_⟩)
      | (refine And.intro (by simp only [List.length_map, List.length_replicate, List.length_set, List.length_append, List.length_take, List.length_drop, List.length_cons, List.length_nil, U_len, tab_len, ints_len]; first | done | omega) ?_)
      | (refine And.intro (Nat.le_refl _) ?_)
      | fail
    · show SV.int _ (b : Int) = _
      rw [nextI, find_at hb (by simpa using h) fun j x hj hx => by simpa using hok x (List.mem_of_getElem? (i := j) (by rw [List.getElem?_take_of_lt hj]; exact hx))]
    · refine ⟨fun c hc => ?_, ⟨rfl, trivial⟩, ⟨rfl, trivial⟩, trivial⟩
      rw [List.take_add_one, hb] at hc
      simp only [Option.toList_some, List.mem_append, List.mem_singleton] at hc
      rcases hc with hc | rfl
      · exact hok c hc
      · omega
  · repeat' (conv => whnf); first
      | ((refine fun x hx => ?_); (obtain ⟨v, hv, rfl⟩ := U_get hx))
      | ((refine And.intro rfl (And.intro (by simp only [U_len, tab_len, List.length_set]; omega) ?_)))
      | (refine Br.tt ?_)
      | (refine Br.ff ?_)
      | (refine Br.dec (fun h => ?_) (fun h => ?_)) <;> try (exfalso; omega)
      | (refine Br.neg ?_)
      | (refine Br.mk (fun h => ?_) (fun h => ?_))
      | (refine And.intro rfl ?_)
      | (refine And.intro (by omega) ?_)
      | (refine ⟨_, Or.inl ⟨⟨by omega, by omega⟩, rfl⟩, ?_⟩)
      | (refine And.intro (by simp only [List.length_map, List.length_replicate, List.length_set, List.length_append, List.length_take, List.length_drop, List.length_cons, List.length_nil, U_len, tab_len, ints_len]; first | done | omega) ?_)
      | (refine And.intro (Nat.le_refl _) ?_)
      | fail
    show SV.int _ (-1) = _
    rw [ints_len] at hok
    have : (bits ws).find? (fun (b : Nat) => decide (i ≤ (b : Int))) = none := by
      rw [List.find?_eq_none]
      intro b hb
      have := hok b (by rw [List.take_length]; exact hb)
      simp; omega
    rw [nextI, this]

def I (l : List Nat) : SV := .slc 1 (ints l)

def ir_slices_AppendSeq_int_int : IR :=
(.seq
 (.reg (⟨(some 2), .bx (.t 0), none⟩ ::
   ⟨(some 4), .mv (.c (.nils)), none⟩ ::
   []))
 (.seq
  (.seq
   (.reg (⟨(some 6), .mv (.t 1), none⟩ ::
     []))
   (.block 0
    (.rng (.t 6) [7]
     (.reg (⟨(some 5), .mv (.t 7), none⟩ ::
       []))
     (.block 1
      (.reg (⟨(some 8), .ld 1 false (.t 2), none⟩ ::
        ⟨(some 9), .mv (.t 5), none⟩ ::
        ⟨(some 10), .bsl 1 1 [.int .i64 0] [(0, (.t 9))], none⟩ ::
        ⟨(some 11), .ap 1 8 (.t 8) (.t 10), none⟩ ::
        ⟨none, .st 1 (.t 2) (.t 11), none⟩ ::
        []))))))
  (.seq
   (.reg (⟨(some 12), .ld 1 false (.t 2), none⟩ ::
     ⟨(some 4), .mv (.t 12), none⟩ ::
     []))
   .ret)))
theorem cd_slices_AppendSeq_int_int : Code1 Try.prog 68 13 ir_slices_AppendSeq_int_int [.t 4] := ⟨Try.call68, _, _, Try.func68, rfl, by kernel_rfl, by kernel_rfl, by kernel_rfl, by kernel_rfl⟩

def ir_slices_Collect_int : IR :=
(.seq
 (.reg (⟨(some 2), .mv (.c (.nils)), none⟩ ::
   []))
 (.seq
  (.reg (⟨(some 3), .mv (.t 0), none⟩ ::
    ⟨(some 4), .call (.c (.fn 68 [])) [(.c (.nils)), (.t 3)], none⟩ ::
    ⟨(some 2), .mv (.t 4), none⟩ ::
    []))
  .ret))
theorem cd_slices_Collect_int : Code1 Try.prog 55 5 ir_slices_Collect_int [.t 2] := ⟨Try.call55, _, _, Try.func55, rfl, by kernel_rfl, by kernel_rfl, by kernel_rfl, by kernel_rfl⟩

theorem fs_AppendSeq (g : FuncId) (caps : List SV) (hp : SV.pure.pureL caps = true) (l : List Nat) (hl : l.length ≤ 1000000000) (hit : IT Try.prog g caps [] (ints l)) : FS Try.prog 68 [.nils, .fn g caps] (I l) := by
  refine fs_of_cvc mixed cd_slices_AppendSeq_int_int (by simp) ?_
  repeat' (conv => whnf); first
    | ((refine fun x hx => ?_); (obtain ⟨v, hv, rfl⟩ := U_get hx))
    | ((refine And.intro rfl (And.intro (by simp only [U_len, tab_len, List.length_set]; omega) ?_)))
    | (refine Br.tt ?_)
    | (refine Br.ff ?_)
    | (refine Br.dec (fun h => ?_) (fun h => ?_)) <;> try (exfalso; omega)
    | (refine Br.neg ?_)
    | (refine Br.mk (fun h => ?_) (fun h => ?_))
    | (refine And.intro rfl ?_)
    | (refine And.intro (by omega) ?_)
    | (refine ⟨_, Or.inl ⟨⟨by omega, by omega⟩, rfl⟩, ?_⟩)
    | (refine And.intro (by simp only [List.length_map, List.length_replicate, List.length_set, List.length_append, List.length_take, List.length_drop, List.length_cons, List.length_nil, U_len, tab_len, ints_len]; first | done | omega) ?_)
    | (refine And.intro (Nat.le_refl _) ?_)
    | fail
  refine ⟨[], [], caps, [], ints l, fun k => [.vars [.osl 1 1 0 k], .arr 1 (ints (l.take k))], fun k => k ≤ l.length, hit, (pure_rens (m := 0) caps hp).1, (pure_rens (m := 0) caps hp).2, rfl, rfl, List.nodup_nil, by simp, ?_, by simp, fun k x hx hok => ?_, fun hok => ?_⟩
  · exact ⟨⟨⟨Nat.le_refl _, rfl, rfl⟩, trivial⟩, rfl, trivial⟩
  · obtain ⟨b, hb, rfl⟩ := ints_get' hx
    have hok' : k ≤ l.length := hok
    refine ⟨rfl, ?_⟩
    repeat' (conv => whnf); first
      | ((refine And.intro (Or.inl (Nat.le_refl _)) ?_))
      | ((refine And.intro (by intro y hy; simp at hy; subst hy; rfl) ?_))
      | ((refine fun x hx => ?_); (obtain ⟨v, hv, rfl⟩ := U_get hx))
      | ((refine And.intro rfl (And.intro (by simp only [U_len, tab_len, List.length_set]; omega) ?_)))
      | (refine Br.tt ?_)
      | (refine Br.ff ?_)
      | (refine Br.dec (fun h => ?_) (fun h => ?_)) <;> try (exfalso; omega)
      | (refine Br.neg ?_)
      | (refine Br.mk (fun h => ?_) (fun h => ?_))
      | (refine And.intro rfl ?_)
      | (refine And.intro (by omega) ?_)
      | (refine ⟨_, Or.inl ⟨⟨by omega, by omega⟩, rfl⟩, ?_⟩)
      | (refine And.intro (by simp only [List.length_map, List.length_replicate, List.length_set, List.length_append, List.length_take, List.length_drop, List.length_cons, List.length_nil, U_len, tab_len, ints_len]; first | done | omega) ?_)
      | (refine And.intro (Nat.le_refl _) ?_)
      | fail
    have hlt := (List.getElem?_eq_some_iff.1 hb).1
    refine ⟨(show k + 1 ≤ l.length by omega), ⟨rfl, trivial⟩, ?_, trivial⟩
    show Blk.arr 1 (ints (List.take k l) ++ [[SV.int .i64 (b : Int)]]) = Blk.arr 1 (ints (List.take (k + 1) l))
    rw [List.take_add_one, hb]; simp [ints]
  · repeat' (conv => whnf); first
      | ((refine fun x hx => ?_); (obtain ⟨v, hv, rfl⟩ := U_get hx))
      | ((refine And.intro rfl (And.intro (by simp only [U_len, tab_len, List.length_set]; omega) ?_)))
      | (refine Br.tt ?_)
      | (refine Br.ff ?_)
      | (refine Br.dec (fun h => ?_) (fun h => ?_)) <;> try (exfalso; omega)
      | (refine Br.neg ?_)
      | (refine Br.mk (fun h => ?_) (fun h => ?_))
      | (refine And.intro rfl ?_)
      | (refine And.intro (by omega) ?_)
      | (refine ⟨_, Or.inl ⟨⟨by omega, by omega⟩, rfl⟩, ?_⟩)
      | (refine And.intro (by simp only [List.length_map, List.length_replicate, List.length_set, List.length_append, List.length_take, List.length_drop, List.length_cons, List.length_nil, U_len, tab_len, ints_len]; first | done | omega) ?_)
      | (refine And.intro (Nat.le_refl _) ?_)
      | fail
    show SV.slc 1 (List.take (ints l).length (List.drop 0 (ints (List.take (ints l).length l)))) = I l
    rw [List.drop_zero, ints_len, List.take_length, ← ints_len, List.take_length]
    rfl

theorem fs_Collect (g : FuncId) (caps : List SV) (hp : SV.pure.pureL caps = true) (l : List Nat) (hl : l.length ≤ 1000000000) (hit : IT Try.prog g caps [] (ints l)) : FS Try.prog 55 [.fn g caps] (I l) := by
  refine fs_of_cvc mixed cd_slices_Collect_int (by simp) ?_
  repeat' (conv => whnf); first
    | ((refine fun x hx => ?_); (obtain ⟨v, hv, rfl⟩ := U_get hx))
    | ((refine And.intro rfl (And.intro (by simp only [U_len, tab_len, List.length_set]; omega) ?_)))
    | (refine Br.tt ?_)
    | (refine Br.ff ?_)
    | (refine Br.dec (fun h => ?_) (fun h => ?_)) <;> try (exfalso; omega)
    | (refine Br.neg ?_)
    | (refine Br.mk (fun h => ?_) (fun h => ?_))
    | (refine And.intro rfl ?_)
    | (refine And.intro (by omega) ?_)
    | (refine ⟨_, Or.inl ⟨⟨by omega, by omega⟩, rfl⟩, ?_⟩)
    | (refine And.intro (by simp only [List.length_map, List.length_replicate, List.length_set, List.length_append, List.length_take, List.length_drop, List.length_cons, List.length_nil, U_len, tab_len, ints_len]; first | done | omega) ?_)
    | (refine And.intro (Nat.le_refl _) ?_)
    | fail
  refine Or.inl ⟨?_, _, fs_AppendSeq g caps hp l hl hit, ?_⟩
  · show (true && (SV.pure.pureL caps && true)) = true
    rw [hp]; rfl
  · exact rfl

/-- The places are no more than the bits. -/
theorem wbits_len (b : Nat) : ∀ v i, v < 2 ^ b → (wbits v i).length ≤ b := by
  induction b with
  | zero => intro v i hv; have : v = 0 := by simpa using hv
            subst this; simp [wbits_zero]
  | succ b ih =>
    intro v i hv
    rcases Nat.eq_zero_or_pos v with h | h
    · subst h; simp [wbits_zero]
    · have := ih (v / 2) (i + 1) (by rw [Nat.pow_succ] at hv; omega)
      rw [wbits_step h, List.length_append]
      split <;> simp <;> omega
theorem bitsF_len : ∀ (ws : List Nat) (k : Nat), Wd ws → (bitsF ws k).length ≤ 64 * ws.length
  | [], _, _ => by simp [bitsF]
  | v :: ws, k, h => by
    have h1 := wbits_len 64 v (64 * k) (by simpa using h v (by simp))
    have h2 := bitsF_len ws (k + 1) fun x hx => h x (by simp [hx])
    simp only [bitsF, List.length_append, List.length_cons]; omega
theorem bits_len (ws : List Nat) (h : Wd ws) : (bits ws).length ≤ 64 * ws.length := bitsF_len ws 0 h

def ir_flags_List : IR :=
(.seq
 (.reg (⟨(some 2), .mv (.c (.nils)), none⟩ ::
   []))
 (.seq
  (.reg (⟨(some 3), .mv (.t 0), none⟩ ::
    ⟨(some 4), .call (.c (.fn 54 [])) [(.t 3)], none⟩ ::
    ⟨(some 5), .call (.c (.fn 55 [])) [(.t 4)], none⟩ ::
    ⟨(some 2), .mv (.t 5), none⟩ ::
    []))
  .ret))
theorem cd_flags_List : Code1 Try.prog 32 6 ir_flags_List [.t 2] := ⟨Try.call32, _, _, Try.func32, rfl, by kernel_rfl, by kernel_rfl, by kernel_rfl, by kernel_rfl⟩

theorem fs_List (ws : List Nat) (hw : Wd ws) (hl : ws.length ≤ 1000000) : FS Try.prog 32 [U ws] (I (bits ws)) := by
  refine fs_of_cvc mixed cd_flags_List (by simp) ?_
  have := bits_len ws hw
  repeat' (conv => whnf); first
    | ((refine fun x hx => ?_); (obtain ⟨v, hv, rfl⟩ := U_get hx))
    | ((refine And.intro rfl (And.intro (by simp only [U_len, tab_len, List.length_set]; omega) ?_)))
    | (refine Br.tt ?_)
    | (refine Br.ff ?_)
    | (refine Br.dec (fun h => ?_) (fun h => ?_)) <;> try (exfalso; omega)
    | (refine Br.neg ?_)
    | (refine Br.mk (fun h => ?_) (fun h => ?_))
    | (refine And.intro rfl ?_)
    | (refine And.intro (by omega) ?_)
    | (refine ⟨_, Or.inl ⟨⟨by omega, by omega⟩, rfl⟩, ?_⟩)
    | (refine And.intro (by simp only [List.length_map, List.length_replicate, List.length_set, List.length_append, List.length_take, List.length_drop, List.length_cons, List.length_nil, U_len, tab_len, ints_len]; first | done | omega) ?_)
    | (refine And.intro (Nat.le_refl _) ?_)
    | fail
  refine Or.inl ⟨rfl, _, fs_each ws, ?_⟩
  refine Or.inl ⟨rfl, _, fs_Collect _ _ rfl (bits ws) (by omega) (it_each ws hw hl), ?_⟩
  exact rfl

def ir_flags_Right : IR :=
(.seq
 (.reg (⟨(some 4), .mv (.c (.bool false)), none⟩ ::
   []))
 (.seq
  (.reg (⟨(some 5), .mv (.t 1), none⟩ ::
    ⟨(some 6), .bin .geq (.t 5) (.c (.int .i64 0)), none⟩ ::
    ⟨(some 7), .mv (.t 6), none⟩ ::
    ⟨(some 8), .mv (.t 1), some (7, true)⟩ ::
    ⟨(some 9), .bin .leq (.t 8) (.c (.int .i64 4096)), some (7, true)⟩ ::
    ⟨(some 10), .pick (.t 7) (.t 9) (.c (.bool false)), none⟩ ::
    ⟨(some 11), .mv (.t 10), none⟩ ::
    ⟨(some 12), .mv (.t 0), some (11, true)⟩ ::
    ⟨(some 13), .ln (.t 12), some (11, true)⟩ ::
    ⟨(some 14), .mv (.t 1), some (11, true)⟩ ::
    ⟨(some 15), .call (.c (.fn 47 [])) [(.t 14)], some (11, true)⟩ ::
    ⟨(some 16), .bin .eql (.t 13) (.t 15), some (11, true)⟩ ::
    ⟨(some 17), .pick (.t 11) (.t 16) (.c (.bool false)), none⟩ ::
    ⟨(some 18), .mv (.t 17), none⟩ ::
    ⟨(some 19), .mv (.t 0), some (18, true)⟩ ::
    ⟨(some 20), .mv (.t 1), some (18, true)⟩ ::
    ⟨(some 21), .call (.c (.fn 29 [])) [(.t 19), (.t 20)], some (18, true)⟩ ::
    ⟨(some 22), .bin .lss (.t 21) (.c (.int .i64 0)), some (18, true)⟩ ::
    ⟨(some 23), .pick (.t 18) (.t 22) (.c (.bool false)), none⟩ ::
    ⟨(some 4), .mv (.t 23), none⟩ ::
    []))
  .ret))
theorem cd_flags_Right : Code1 Try.prog 17 24 ir_flags_Right [.t 4] := ⟨Try.call17, _, _, Try.func17, rfl, by kernel_rfl, by kernel_rfl, by kernel_rfl, by kernel_rfl⟩

theorem fs_Right (ws : List Nat) (hw : Wd ws) (hl : ws.length ≤ 1000000) (n : Int) (h0 : -9223372036854775808 ≤ n) (h1 : n ≤ 9223372036854775807) : FS Try.prog 17 [U ws, .int .i64 n] (.bool (decide (0 ≤ n) && (decide (n ≤ 4096) && (decide ((ws.length : Int) = wordsI n) && decide (nextI ws n < 0))))) := by
  refine fs_of_cvc mixed cd_flags_Right (by simp) ?_
  repeat' (conv => whnf); first
    | ((refine Or.inl ⟨rfl, _, fs_words n h0 h1, ?_⟩))
    | ((refine Or.inl ⟨rfl, _, fs_Next ws hw hl n, ?_⟩))
    | ((refine fun x hx => ?_); (obtain ⟨v, hv, rfl⟩ := U_get hx))
    | ((refine And.intro rfl (And.intro (by simp only [U_len, tab_len, List.length_set]; omega) ?_)))
    | (refine Br.tt ?_)
    | (refine Br.ff ?_)
    | (refine Br.dec (fun h => ?_) (fun h => ?_)) <;> try (exfalso; omega)
    | (refine Br.neg ?_)
    | (refine Br.mk (fun h => ?_) (fun h => ?_))
    | (refine And.intro rfl ?_)
    | (refine And.intro (by omega) ?_)
    | (refine ⟨_, Or.inl ⟨⟨by omega, by omega⟩, rfl⟩, ?_⟩)
    | (refine And.intro (by simp only [List.length_map, List.length_replicate, List.length_set, List.length_append, List.length_take, List.length_drop, List.length_cons, List.length_nil, U_len, tab_len, ints_len]; first | done | omega) ?_)
    | (refine And.intro (Nat.le_refl _) ?_)
    | fail
  all_goals (show SV.bool _ = SV.bool _; (try simp only [U_len] at *); simp [*])

end Go.Proofs.Ytefciekodhpefaa
