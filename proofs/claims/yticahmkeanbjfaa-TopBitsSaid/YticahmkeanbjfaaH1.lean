/- Numbers as bytes: bytes, Put64, a copy, Open. Bytes as a number. -/
import Derived.Test.YticahmkeanbjfaaF1
namespace Go.Proofs.Yticahmkeanbjfaa
section
open Go.RowKit
attribute [local irreducible] FS FO IT HS

/-- A function that hands over all that it made, as it stands. -/
theorem fo_of_cvcA {P : Program} (hm : P.follows .mixedOrders = true) {f : FuncId} {N : Nat} {ir : IR} {rs : List RV} (hc : Code1 P f N ir rs) {args : List SV} {res : SV} {Hn : List Blk} (hN : args.length ≤ N)
    (h : cvc P 0 [] outY ir (argE 0 args) [] none fun ex e' H' _ => finK ex (resK rs e' H' fun sv => sv = res ∧ H' = Hn)) : FO P f args res Hn := by
  unfold FO
  refine ⟨hc.enter, fun w A vs hfin hr => (calls_of_cvc hm hc hN (R := fun sv H' _ => sv = res ∧ H' = Hn) (Yok.nil (β0 := []) rfl fun _ _ _ => rfl) (fun b h => by simp at h) h hfin (WRel.nil w A) hr trivial).mono ?_⟩
  rintro e w' ⟨v, A', β', sv, H', g', rfl, ⟨rfl, rfl⟩, hcur, hrep, _⟩
  have hAA : ∀ b, A b → A' b := fun b hb => (hcur.agree b (hfin b hb)).2 hb
  have hsub : ∀ b, (A b ∨ some b ∈ β') → A' b := fun b hb => by
    rcases hb with hb | hb
    · exact hAA b hb
    · obtain ⟨k, hk⟩ := mem_name hb
      exact (hcur.rel.own k b hk).1
  refine ⟨v, β', rfl, ⟨hcur.frm.os, hcur.frm.tape, hcur.frm.output, hcur.frm.size, fun b hb => hcur.frm.keep b hb (by simp)⟩, ⟨hcur.rel.len, hcur.rel.inj, fun k b hk => ⟨.inr (List.mem_of_getElem? hk), (hcur.rel.own k b hk).2⟩, fun k o blk hk hb => (hcur.rel.blk k o blk hk hb).keep (Stp.refl _ _) (fun b _ hb => hsub b hb) (fun _ _ h => h) fun _ _ => rfl⟩, fun b hb => ?_, hrep.mono (Stp.refl _ _) fun b _ hb => hsub b hb⟩
  obtain ⟨k, hk⟩ := mem_name hb
  by_cases hlt : b < w.heap.size
  · have := hcur.fresh k b hk hlt; simp at this
  · omega

def byt (v i : Nat) : Nat := v / 2 ^ (8 * i) % 256
def byL (v : Nat) : List Nat := tab 8 (byt v)
def bs (l : List Nat) : List (List SV) := l.map fun (b : Nat) => [.int .u8 (b : Int)]
def YL (l : List Nat) : SV := .slc 1 (bs l)
theorem bs_len (l : List Nat) : (bs l).length = l.length := by simp [bs]
theorem byL_len (v : Nat) : (byL v).length = 8 := rfl
theorem bs_append (l m : List Nat) : bs (l ++ m) = bs l ++ bs m := by simp [bs]
theorem bs_byL (v : Nat) : bs (byL v) = tab 8 fun i => [.int .u8 ((byt v i : Nat) : Int)] := by
  unfold bs byL tab
  rw [List.map_map]; rfl
theorem bs_scal (l : List Nat) : ∀ y ∈ bs l, scalarL y = true := by
  intro y hy
  obtain ⟨v, _, rfl⟩ := List.mem_map.1 hy
  rfl
theorem bs_loose (l : List Nat) : ∀ b ∈ [Blk.arr 1 (bs l)], Blk.loose b := fun b hb => by
  rw [List.mem_singleton.1 hb]
  intro x hx
  obtain ⟨y, _, rfl⟩ := List.mem_map.1 hx
  rfl
theorem wrap_u8 (x : Int) : IntKind.u8.wrap x = x % 256 := by simp [IntKind.wrap, IntKind.signed, IntKind.bits]
theorem shb (v k : Nat) (hk : k < 8) : IntKind.u8.wrap ((v : Int) / 2 ^ (min (8 * (k : Int)).toNat IntKind.u64.bits)) = ((byt v k : Nat) : Int) := by
  rw [wrap_u8, show (8 * (k : Int)).toNat = 8 * k by omega, bits_u64, show min (8 * k) 64 = 8 * k by omega]
  unfold byt
  rw [Int.natCast_emod, Int.natCast_ediv, Int.natCast_pow]; rfl

theorem tab_rest {α : Type} {n k q : Nat} {g : Nat → α} {z : α} (hq : q = k) (h : k < n) : (tab n fun i => if i < k then g i else z)[q]? = some z := by
  subst hq
  rw [tab_get _ h, if_neg (Nat.lt_irrefl _)]

def ir_octet_bytes : IR :=
(.seq (.reg (⟨(some 4), .mv (.c (.nils)), none⟩ :: [])) (.seq (.reg (⟨(some 7), .mv (.t 1), none⟩ ::⟨(some 8), .mk 1 1 [.int .u8 0] (.t 7) (.t 7), none⟩ ::⟨(some 5), .mv (.t 8), none⟩ :: [])) (.seq (.seq (.reg (⟨(some 9), .mv (.t 5), none⟩ ::⟨(some 10), .ln (.t 9), none⟩ ::⟨(some 11), .mv (.c (.int .i64 0)), none⟩ :: [])) (.block 0 (.loop (.seq (.reg (⟨(some 12), .bin .lss (.t 11) (.t 10), none⟩ :: [])) (.seq (.cond (.t 12) .skip (.exit 0)) (.seq (.block 1 (.seq (.reg (⟨(some 13), .mv (.t 11), none⟩ ::⟨(some 6), .mv (.t 13), none⟩ :: [])) (.reg (⟨(some 14), .mv (.t 5), none⟩ ::⟨(some 15), .mv (.t 6), none⟩ ::⟨(some 16), .mv (.t 0), none⟩ ::⟨(some 17), .mv (.t 6), none⟩ ::⟨(some 18), .cv .u64 (.t 17), none⟩ ::⟨(some 19), .bin .mul (.c (.int .u64 8)) (.t 18), none⟩ ::⟨(some 20), .bin .shr (.t 16) (.t 19), none⟩ ::⟨(some 21), .cv .u8 (.t 20), none⟩ ::⟨(some 22), .ia 1 (.t 14) (.t 15), none⟩ ::⟨none, .st 1 (.t 22) (.t 21), none⟩ :: [])))) (.reg (⟨(some 23), .bin .add (.t 11) (.c (.int .i64 1)), none⟩ ::⟨(some 11), .mv (.t 23), none⟩ :: [])))))))) (.seq (.reg (⟨(some 24), .mv (.t 5), none⟩ ::⟨(some 4), .mv (.t 24), none⟩ :: [])) .ret))))
theorem cd_octet_bytes : Code1 Try.prog 16 25 ir_octet_bytes [.t 4] := ⟨Try.call16, _, _, Try.func16, rfl, by kernel_rfl, by kernel_rfl, by kernel_rfl, by kernel_rfl⟩

theorem fo_bytes (v : Nat) (_hv : v < 18446744073709551616) : FO Try.prog 16 [.int .u64 (v : Int), .int .i64 8] (.osl 0 1 0 8) [.arr 1 (bs (byL v))] := by
  refine fo_of_cvc mixed cd_octet_bytes (by simp) ?_
  repeat' (conv => whnf); first
    | ((refine And.intro (Or.inl (Nat.zero_le _)) ?_))
    | ((refine And.intro (show _ ≤ _ from Nat.le_of_ble_eq_true rfl) ?_))
    | (refine Br.tt ?_)
    | (refine Br.ff ?_)
    | (refine Br.dec (fun h => ?_) (fun h => ?_)) <;> try (exfalso; omega)
    | (refine Br.neg ?_)
    | (refine Br.mk (fun h => ?_) (fun h => ?_))
    | (refine And.intro rfl ?_)
    | (refine And.intro (by omega) ?_)
    | (refine ⟨_, Or.inl ⟨⟨by omega, by omega⟩, rfl⟩, ?_⟩)
    | (refine And.intro (by simp only [lens_all, tab_len, bs_len]; first | done | omega) ?_)
    | (refine And.intro (Nat.le_refl _) ?_)
    | fail
  refine ⟨Nat, fun k => k ≤ 8, fun k => [(0, .int .u64 (v : Int)), (5, .osl 0 1 0 8), (10, .int .i64 8), (11, .int .i64 (k : Int))], fun k => [.arr 1 (tab 8 fun i => if i < k then [.int .u8 ((byt v i : Nat) : Int)] else [.int .u8 0])], fun _ => none, fun k => 8 - k,
    ⟨0, Nat.zero_le _, ⟨rfl, rfl, rfl, rfl, trivial⟩, ⟨congrArg (Blk.arr 1) (tab_zero 8 _ _), trivial⟩, rfl⟩, fun k hk => ?_⟩
  have hk : k ≤ 8 := hk
  by_cases hk8 : k < 8
  · repeat' (conv => whnf); first
      | ((refine ⟨_, Or.inl ⟨⟨by omega, by omega⟩, rfl⟩, ?_⟩))
      | ((refine ⟨_, Or.inr rfl, ?_⟩))
      | ((refine ⟨_, tab_rest (k := k) (by omega) hk8, ?_⟩))
      | ((refine And.intro (Or.inl (Nat.zero_le _)) ?_))
      | ((refine And.intro (show _ ≤ _ from Nat.le_of_ble_eq_true rfl) ?_))
      | (refine Br.tt ?_)
      | (refine Br.ff ?_)
      | (refine Br.dec (fun h => ?_) (fun h => ?_)) <;> try (exfalso; omega)
      | (refine Br.neg ?_)
      | (refine Br.mk (fun h => ?_) (fun h => ?_))
      | (refine And.intro rfl ?_)
      | (refine And.intro (by omega) ?_)
      | (refine ⟨_, Or.inl ⟨⟨by omega, by omega⟩, rfl⟩, ?_⟩)
      | (refine And.intro (by simp only [lens_all, tab_len, bs_len]; first | done | omega) ?_)
      | (refine And.intro (Nat.le_refl _) ?_)
      | fail
    refine ⟨k + 1, (show k + 1 ≤ 8 by omega), (show 8 - (k + 1) < 8 - k by omega), ⟨rfl, rfl, rfl, rfl, trivial⟩, ⟨?_, trivial⟩, rfl⟩
    refine congrArg (Blk.arr 1) ?_
    show List.set _ (0 + (k : Int).toNat) [SV.int .u8 (IntKind.u8.wrap ((v : Int) / 2 ^ (min (8 * (k : Int)).toNat IntKind.u64.bits)))] = _
    rw [shb v k hk8, show 0 + (k : Int).toNat = k by omega]
    exact tab_set (n := 8) (k := k) (fun i => [SV.int .u8 ((byt v i : Nat) : Int)]) fun _ => [.int .u8 0]
  · obtain rfl : k = 8 := by omega
    repeat' (conv => whnf); first
      | ((refine And.intro (Or.inl (Nat.zero_le _)) ?_))
      | ((refine And.intro (show _ ≤ _ from Nat.le_of_ble_eq_true rfl) ?_))
      | (refine Br.tt ?_)
      | (refine Br.ff ?_)
      | (refine Br.dec (fun h => ?_) (fun h => ?_)) <;> try (exfalso; omega)
      | (refine Br.neg ?_)
      | (refine Br.mk (fun h => ?_) (fun h => ?_))
      | (refine And.intro rfl ?_)
      | (refine And.intro (by omega) ?_)
      | (refine ⟨_, Or.inl ⟨⟨by omega, by omega⟩, rfl⟩, ?_⟩)
      | (refine And.intro (by simp only [lens_all, tab_len, bs_len]; first | done | omega) ?_)
      | (refine And.intro (Nat.le_refl _) ?_)
      | fail
    have e : (tab 8 fun i => if i < 8 then [SV.int .u8 ((byt v i : Nat) : Int)] else [.int .u8 0]) = bs (byL v) := by
      rw [bs_byL]
      exact tab_full _ _ (Nat.le_refl 8)
    refine Or.inl ⟨[0], rfl, ?_, by simp, rfl, rfl⟩
    exact congrArg (fun x => [some (Blk.arr 1 x)]) e

def ir_octet_Put64 : IR :=
(.seq (.reg (⟨(some 2), .mv (.c (.nils)), none⟩ :: [])) (.seq (.reg (⟨(some 3), .mv (.t 0), none⟩ ::⟨(some 4), .cv .u64 (.t 3), none⟩ ::⟨(some 5), .call (.c (.fn 16 [])) [(.t 4), (.c (.int .i64 8))], none⟩ ::⟨(some 2), .mv (.t 5), none⟩ :: [])) .ret))
theorem cd_octet_Put64 : Code1 Try.prog 5 6 ir_octet_Put64 [.t 2] := ⟨Try.call5, _, _, Try.func5, rfl, by kernel_rfl, by kernel_rfl, by kernel_rfl, by kernel_rfl⟩

theorem fs_Put64 (x : Int) (v : Nat) (hv : v < 18446744073709551616) (hx : IntKind.u64.wrap x = (v : Int)) : FS Try.prog 5 [.int .i64 x] (YL (byL v)) := by
  refine fs_of_cvc mixed cd_octet_Put64 (by simp) ?_
  have c1 := fo_bytes v hv
  rw [← hx] at c1
  repeat' (conv => whnf); first
    | ((refine ⟨_, Or.inr rfl, ?_⟩))
    | ((refine Or.inr (Or.inl ⟨by rfl, _, _, c1, ?_⟩)))
    | ((refine And.intro (Or.inl (Nat.zero_le _)) ?_))
    | ((refine And.intro (show _ ≤ _ from Nat.le_of_ble_eq_true rfl) ?_))
    | (refine Br.tt ?_)
    | (refine Br.ff ?_)
    | (refine Br.dec (fun h => ?_) (fun h => ?_)) <;> try (exfalso; omega)
    | (refine Br.neg ?_)
    | (refine Br.mk (fun h => ?_) (fun h => ?_))
    | (refine And.intro rfl ?_)
    | (refine And.intro (by omega) ?_)
    | (refine ⟨_, Or.inl ⟨⟨by omega, by omega⟩, rfl⟩, ?_⟩)
    | (refine And.intro (by simp only [lens_all, tab_len, bs_len]; first | done | omega) ?_)
    | (refine And.intro (Nat.le_refl _) ?_)
    | fail
  exact rfl

def ir_slices_Clone_byte_byte : IR :=
(.seq (.reg (⟨(some 2), .mv (.c (.nils)), none⟩ :: [])) (.seq (.seq (.reg (⟨(some 3), .mv (.t 0), none⟩ ::⟨(some 4), .isn false (.t 3), none⟩ :: [])) (.cond (.t 4) (.seq (.reg (⟨(some 2), .mv (.c (.nils)), none⟩ :: [])) .ret) .skip)) (.seq (.reg (⟨(some 5), .bsl 0 1 [.int .u8 0] [], none⟩ ::⟨(some 6), .mv (.t 0), none⟩ ::⟨(some 7), .ap 1 1 (.t 5) (.t 6), none⟩ ::⟨(some 2), .mv (.t 7), none⟩ :: [])) .ret)))
theorem cd_slices_Clone_byte_byte : Code1 Try.prog 17 8 ir_slices_Clone_byte_byte [.t 2] := ⟨Try.call17, _, _, Try.func17, rfl, by kernel_rfl, by kernel_rfl, by kernel_rfl, by kernel_rfl⟩

theorem fo_bClone (l : List Nat) (hl : l.length ≤ 1000000000) : FO Try.prog 17 [YL l] (.osl 0 1 0 l.length) [.arr 1 (bs l)] := by
  refine fo_of_cvc mixed cd_slices_Clone_byte_byte (by simp) ?_
  have go : ∀ (H : List Blk), H = [] → FoP (H ++ [.arr 1 (bs l)]) (.osl H.length 1 0 (bs l).length) (.osl 0 1 0 l.length) [.arr 1 (bs l)] := by
    rintro _ rfl
    refine Or.inl ⟨[0], ?_, rfl, by simp, rfl, rfl⟩
    show SV.osl 0 1 0 l.length = SV.osl 0 1 0 (bs l).length
    rw [bs_len]
  have hlen := bs_len l
  refine ⟨fun h => ?_, fun h => ?_⟩
  · refine Br.ff ?_
    refine ⟨rfl, rfl, by omega, by omega, bs_scal l, ?_⟩
    exact go [] rfl
  · refine ⟨?_, ?_⟩
    · have hw : l = [] := by simpa [bs] using h
      subst hw
      exact Or.inr (Or.inl ⟨rfl, 1, rfl, rfl⟩)
    · refine ⟨rfl, rfl, by omega, by omega, bs_scal l, ?_⟩
      exact go [] rfl

def ir_octet_Open : IR :=
(.seq (.reg (⟨(some 2), .mv (.c (.raw (.pointer none))), none⟩ :: [])) (.seq (.reg (⟨(some 3), .mv (.t 0), none⟩ ::⟨(some 4), .call (.c (.fn 17 [])) [(.t 3)], none⟩ ::⟨(some 5), .bld [.nils, .int .i64 0, .int .i64 0, .int .i64 0] [(0, 1, (.t 4))], none⟩ ::⟨(some 6), .bx (.t 5), none⟩ ::⟨(some 2), .mv (.t 6), none⟩ :: [])) .ret))
theorem cd_octet_Open : Code1 Try.prog 6 7 ir_octet_Open [.t 2] := ⟨Try.call6, _, _, Try.func6, rfl, by kernel_rfl, by kernel_rfl, by kernel_rfl, by kernel_rfl⟩

theorem fo_Open (l : List Nat) (hl : l.length ≤ 1000000000) : FO Try.prog 6 [YL l] (.ptr 1 0 0 0) [.arr 1 (bs l), .vars [.osl 0 1 0 l.length, .int .i64 0, .int .i64 0, .int .i64 0]] := by
  refine fo_of_cvcA mixed cd_octet_Open (by simp) ?_
  have c1 := fo_bClone l hl
  repeat' (conv => whnf); first
    | ((refine Or.inr (Or.inl ⟨by rfl, _, _, c1, ?_⟩)))
    | ((refine And.intro (Or.inl (Nat.zero_le _)) ?_))
    | ((refine And.intro (show _ ≤ _ from Nat.le_of_ble_eq_true rfl) ?_))
    | (refine Br.tt ?_)
    | (refine Br.ff ?_)
    | (refine Br.dec (fun h => ?_) (fun h => ?_)) <;> try (exfalso; omega)
    | (refine Br.neg ?_)
    | (refine Br.mk (fun h => ?_) (fun h => ?_))
    | (refine And.intro rfl ?_)
    | (refine And.intro (by omega) ?_)
    | (refine ⟨_, Or.inl ⟨⟨by omega, by omega⟩, rfl⟩, ?_⟩)
    | (refine And.intro (by simp only [lens_all, tab_len, bs_len]; first | done | omega) ?_)
    | (refine And.intro (Nat.le_refl _) ?_)
    | fail
  exact rfl
end
section
open Go.RowKit
attribute [local irreducible] FS FO IT HS

theorem byt_lt (v i : Nat) : byt v i < 256 := Nat.mod_lt _ (by omega)
theorem pow8 {k : Nat} (hk : k < 8) : 2 ^ (8 * k) ≤ 72057594037927936 := Nat.le_trans (Nat.pow_le_pow_right (by omega) (show 8 * k ≤ 56 by omega)) (Nat.le_of_ble_eq_true rfl)
theorem or_step (v k : Nat) : v % 2 ^ (8 * k) ||| byt v k * 2 ^ (8 * k) = v % 2 ^ (8 * (k + 1)) := by
  have h1 : v % 2 ^ (8 * k) < 2 ^ (8 * k) := Nat.mod_lt _ (Nat.two_pow_pos _)
  rw [Nat.or_comm, Nat.mul_comm, ← Nat.two_pow_add_eq_or_of_lt h1, show 8 * (k + 1) = 8 * k + 8 by omega, Nat.pow_add, Nat.mod_mul, Nat.add_comm]
  rfl
theorem shlb (v k : Nat) (hk : k < 8) : ((byt v k : Nat) : Int) * 2 ^ (min (8 * (k : Int)).toNat IntKind.u64.bits) = ((byt v k * 2 ^ (8 * k) : Nat) : Int) := by
  rw [show (8 * (k : Int)).toNat = 8 * k by omega, bits_u64, show min (8 * k) 64 = 8 * k by omega, Int.natCast_mul, Int.natCast_pow]; rfl
theorem shl_lt (v k : Nat) (hk : k < 8) : byt v k * 2 ^ (8 * k) < 18446744073709551616 := by
  have h1 := byt_lt v k
  have h2 := pow8 hk
  have h3 : byt v k * 2 ^ (8 * k) ≤ 255 * 72057594037927936 := Nat.mul_le_mul (by omega) h2
  omega
theorem or_int (v k : Nat) (hk : k < 8) (hv : v < 18446744073709551616) : bOr .u64 ((v % 2 ^ (8 * k) : Nat) : Int) (((byt v k : Nat) : Int) * 2 ^ (min (8 * (k : Int)).toNat IntKind.u64.bits)) = ((v % 2 ^ (8 * (k + 1)) : Nat) : Int) := by
  rw [shlb v k hk, bOr_u64 (Nat.lt_of_le_of_lt (Nat.mod_le _ _) hv) (shl_lt v k hk), or_step]

def ir_octet_number_int64 : IR :=
(.seq (.reg (⟨(some 2), .mv (.c (.int .i64 0)), none⟩ :: [])) (.seq (.reg (⟨(some 3), .mv (.c (.int .u64 0)), none⟩ :: [])) (.seq (.seq (.reg (⟨(some 6), .mv (.t 0), none⟩ ::⟨(some 7), .ln (.t 6), none⟩ ::⟨(some 8), .mv (.c (.int .i64 0)), none⟩ :: [])) (.block 0 (.loop (.seq (.reg (⟨(some 9), .bin .lss (.t 8) (.t 7), none⟩ :: [])) (.seq (.cond (.t 9) .skip (.exit 0)) (.seq (.block 1 (.seq (.reg (⟨(some 10), .mv (.t 8), none⟩ ::⟨(some 11), .ia 1 (.t 6) (.t 8), none⟩ ::⟨(some 12), .ld 1 false (.t 11), none⟩ ::⟨(some 4), .mv (.t 10), none⟩ ::⟨(some 5), .mv (.t 12), none⟩ :: [])) (.reg (⟨(some 13), .mv (.t 3), none⟩ ::⟨(some 14), .mv (.t 5), none⟩ ::⟨(some 15), .cv .u64 (.t 14), none⟩ ::⟨(some 16), .mv (.t 4), none⟩ ::⟨(some 17), .cv .u64 (.t 16), none⟩ ::⟨(some 18), .bin .mul (.c (.int .u64 8)) (.t 17), none⟩ ::⟨(some 19), .bin .shl (.t 15) (.t 18), none⟩ ::⟨(some 20), .bin .or (.t 13) (.t 19), none⟩ ::⟨(some 3), .mv (.t 20), none⟩ :: [])))) (.reg (⟨(some 21), .bin .add (.t 8) (.c (.int .i64 1)), none⟩ ::⟨(some 8), .mv (.t 21), none⟩ :: [])))))))) (.seq (.reg (⟨(some 22), .mv (.t 3), none⟩ ::⟨(some 23), .cv .i64 (.t 22), none⟩ ::⟨(some 2), .mv (.t 23), none⟩ :: [])) .ret))))
theorem cd_octet_number_int64 : Code1 Try.prog 19 24 ir_octet_number_int64 [.t 2] := ⟨Try.call19, _, _, Try.func19, rfl, by kernel_rfl, by kernel_rfl, by kernel_rfl, by kernel_rfl⟩

theorem fs_number (v : Nat) (hv : v < 18446744073709551616) : FS Try.prog 19 [YL (byL v)] (.int .i64 (IntKind.i64.wrap (v : Int))) := by
  refine fs_of_cvc mixed cd_octet_number_int64 (by simp) ?_
  have hl : (bs (byL v)).length = 8 := rfl
  refine ⟨Nat, fun k => k ≤ 8, fun k => [(3, .int .u64 ((v % 2 ^ (8 * k) : Nat) : Int)), (6, YL (byL v)), (7, .int .i64 8), (8, .int .i64 (k : Int))], fun _ => [], fun _ => none, fun k => 8 - k,
    ⟨0, Nat.zero_le _, ⟨?_, rfl, ?_, rfl, trivial⟩, trivial, rfl⟩, fun k hk => ?_⟩
  · show SV.int .u64 0 = SV.int .u64 _
    rw [Nat.mul_zero, Nat.pow_zero, Nat.mod_one]; rfl
  · exact congrArg (SV.int .i64) (congrArg Int.ofNat hl)
  have hk : k ≤ 8 := hk
  by_cases hk8 : k < 8
  · have hb := byt_lt v k
    have hs0 : (0 : Int) ≤ ((byt v k : Nat) : Int) * 2 ^ (min (8 * (k : Int)).toNat IntKind.u64.bits) := by rw [shlb v k hk8]; omega
    have hs1 : ((byt v k : Nat) : Int) * 2 ^ (min (8 * (k : Int)).toNat IntKind.u64.bits) ≤ 18446744073709551615 := by rw [shlb v k hk8]; have := shl_lt v k hk8; omega
    have hget : (bs (byL v))[k]? = some [.int .u8 ((byt v k : Nat) : Int)] := by rw [bs_byL]; exact tab_get _ hk8
    repeat' (conv => whnf); first
      | ((refine fun x hx => ?_); (obtain rfl : _ = x := Option.some.inj (hget.symm.trans hx); clear hx))
      | ((refine ⟨_, Or.inl ⟨⟨hs0, hs1⟩, rfl⟩, ?_⟩))
      | ((refine And.intro (Or.inl (Nat.zero_le _)) ?_))
      | ((refine And.intro (show _ ≤ _ from Nat.le_of_ble_eq_true rfl) ?_))
      | (refine Br.tt ?_)
      | (refine Br.ff ?_)
      | (refine Br.dec (fun h => ?_) (fun h => ?_)) <;> try (exfalso; omega)
      | (refine Br.neg ?_)
      | (refine Br.mk (fun h => ?_) (fun h => ?_))
      | (refine And.intro rfl ?_)
      | (refine And.intro (by omega) ?_)
      | (refine ⟨_, Or.inl ⟨⟨by omega, by omega⟩, rfl⟩, ?_⟩)
      | (refine And.intro (by simp only [lens_all, tab_len, bs_len]; first | done | omega) ?_)
      | (refine And.intro (Nat.le_refl _) ?_)
      | fail
    refine ⟨k + 1, (show k + 1 ≤ 8 by omega), (show 8 - (k + 1) < 8 - k by omega), ⟨?_, rfl, rfl, rfl, trivial⟩, trivial, rfl⟩
    exact congrArg (SV.int .u64) (or_int v k hk8 hv)
  · obtain rfl : k = 8 := by omega
    have e : v % 2 ^ (8 * 8) = v := Nat.mod_eq_of_lt (by simpa using hv)
    repeat' (conv => whnf); first
      | ((refine ⟨_, Or.inr rfl, ?_⟩))
      | ((refine And.intro (Or.inl (Nat.zero_le _)) ?_))
      | ((refine And.intro (show _ ≤ _ from Nat.le_of_ble_eq_true rfl) ?_))
      | (refine Br.tt ?_)
      | (refine Br.ff ?_)
      | (refine Br.dec (fun h => ?_) (fun h => ?_)) <;> try (exfalso; omega)
      | (refine Br.neg ?_)
      | (refine Br.mk (fun h => ?_) (fun h => ?_))
      | (refine And.intro rfl ?_)
      | (refine And.intro (by omega) ?_)
      | (refine ⟨_, Or.inl ⟨⟨by omega, by omega⟩, rfl⟩, ?_⟩)
      | (refine And.intro (by simp only [lens_all, tab_len, bs_len]; first | done | omega) ?_)
      | (refine And.intro (Nat.le_refl _) ?_)
      | fail
    show SV.int .i64 (IntKind.i64.wrap ((v % 2 ^ (8 * 8) : Nat) : Int)) = _
    rw [e]
end
end Go.Proofs.Yticahmkeanbjfaa
