/- Arithmetic that the VCs come to. -/
import Derived.Test.YtefciekodhpefaaSv
namespace Go.Proofs.Ytefciekodhpefaa

theorem bits_i64 : IntKind.i64.bits = 64 := rfl
theorem bits_u64 : IntKind.u64.bits = 64 := rfl

/-- A word; an int of Go. -/
def W64 (x : Int) : Prop := 0 ≤ x ∧ x ≤ 18446744073709551615
def I64' (x : Int) : Prop := -9223372036854775808 ≤ x ∧ x ≤ 9223372036854775807

theorem wrap_u64 (x : Int) : IntKind.u64.wrap x = x % 18446744073709551616 := by
  simp [IntKind.wrap, IntKind.signed, bits_u64]
theorem wrap_i64 (x : Int) : IntKind.i64.wrap x = if x % 18446744073709551616 ≥ 9223372036854775808 then x % 18446744073709551616 - 18446744073709551616 else x % 18446744073709551616 := by
  simp [IntKind.wrap, IntKind.signed, bits_i64]
theorem wrap_u64_id {x : Int} (h : 0 ≤ x) (h' : x ≤ 18446744073709551615) : IntKind.u64.wrap x = x := by rw [wrap_u64]; omega
theorem wrap_i64_id {x : Int} (h : -9223372036854775808 ≤ x) (h' : x ≤ 9223372036854775807) : IntKind.i64.wrap x = x := by rw [wrap_i64]; split <;> omega

theorem ofInt_toNat {x : Nat} (hx : x < 18446744073709551616) : (BitVec.ofInt 64 (x : Int)).toNat = x := by
  simp [BitVec.toNat_ofInt]; omega

theorem bAnd_u64 {x y : Nat} (hx : x < 18446744073709551616) (hy : y < 18446744073709551616) : bAnd .u64 x y = ((x &&& y : Nat) : Int) := by
  have h : x &&& y < 2 ^ 64 := Nat.and_lt_two_pow x (by simpa using hy)
  unfold bAnd
  rw [BitVec.toNat_and]
  show IntKind.u64.wrap (((BitVec.ofInt 64 (x : Int)).toNat &&& (BitVec.ofInt 64 (y : Int)).toNat : Nat) : Int) = _
  rw [ofInt_toNat hx, ofInt_toNat hy]
  exact wrap_u64_id (by omega) (by omega)

theorem bOr_u64 {x y : Nat} (hx : x < 18446744073709551616) (hy : y < 18446744073709551616) : bOr .u64 x y = ((x ||| y : Nat) : Int) := by
  have h : x ||| y < 2 ^ 64 := Nat.or_lt_two_pow (by simpa using hx) (by simpa using hy)
  unfold bOr
  rw [BitVec.toNat_or]
  show IntKind.u64.wrap (((BitVec.ofInt 64 (x : Int)).toNat ||| (BitVec.ofInt 64 (y : Int)).toNat : Nat) : Int) = _
  rw [ofInt_toNat hx, ofInt_toNat hy]
  exact wrap_u64_id (by omega) (by omega)

theorem bXor_u64 {x y : Nat} (hx : x < 18446744073709551616) (hy : y < 18446744073709551616) : bXor .u64 x y = ((x ^^^ y : Nat) : Int) := by
  have h : x ^^^ y < 2 ^ 64 := Nat.xor_lt_two_pow (by simpa using hx) (by simpa using hy)
  unfold bXor
  rw [BitVec.toNat_xor]
  show IntKind.u64.wrap (((BitVec.ofInt 64 (x : Int)).toNat ^^^ (BitVec.ofInt 64 (y : Int)).toNat : Nat) : Int) = _
  rw [ofInt_toNat hx, ofInt_toNat hy]
  exact wrap_u64_id (by omega) (by omega)

theorem testBit_not {y i : Nat} (hy : y < 18446744073709551616) : (18446744073709551615 - y).testBit i = (decide (i < 64) && !y.testBit i) := by
  have := Nat.testBit_two_pow_sub_succ (n := 64) (x := y) (by simpa using hy) i
  simpa using this

/-- x without the bits of y. -/
def natAndNot (x y : Nat) : Nat := x &&& (18446744073709551615 - y)

theorem bAndNot_u64 {x y : Nat} (hx : x < 18446744073709551616) (hy : y < 18446744073709551616) : bAndNot .u64 x y = (natAndNot x y : Int) := by
  have h : natAndNot x y < 2 ^ 64 := Nat.and_lt_two_pow x (by omega)
  unfold bAndNot
  rw [BitVec.toNat_and, BitVec.toNat_not]
  show IntKind.u64.wrap (((BitVec.ofInt 64 (x : Int)).toNat &&& (2 ^ 64 - 1 - (BitVec.ofInt 64 (y : Int)).toNat) : Nat) : Int) = _
  rw [ofInt_toNat hx, ofInt_toNat hy]
  show IntKind.u64.wrap ((natAndNot x y : Nat) : Int) = _
  exact wrap_u64_id (by omega) (by omega)

theorem and_mask (x n : Nat) : x &&& (2 ^ n - 1) = x % 2 ^ n := Nat.and_two_pow_sub_one_eq_mod x n

/-- New blocks, never written again. -/
theorem fs_of_fo {P : Program} {f : FuncId} {args : List SV} {res res' : SV} {Hn : List Blk} (h : FO P f args res Hn) (hz : frzK 4 Hn res fun y => y = res') : FS P f args res' := by
  refine ⟨h.1, fun w A vs hfin hlen hr => (h.2 w A vs hfin ⟨hlen, hr⟩).mono ?_⟩
  rintro e w' ⟨v, γ, rfl, hb, hW, hnew, hrep⟩
  obtain ⟨y, rfl, hfz⟩ := frzK_sound 4 res _ hz
  exact ⟨v, rfl, hb, hfz w' _ A γ v hW.wb (fun b hb => .inl hb) (fun k b hk ha => by
    have h1 := hnew b (List.mem_of_getElem? hk)
    have h2 := hfin b ha
    omega) hrep⟩

theorem leL_reps {w : World} {A : Nat → Prop} : ∀ (as bs : List SV), leL 0 as bs → as.length = bs.length ∧ ∀ (vs : List Value), Reps w A [] as vs → Reps w A [] bs vs
  | [], [], _ => ⟨rfl, fun _ h => h⟩
  | [], _ :: _, h => h.elim
  | _ :: _, [], h => h.elim
  | a :: as, b :: bs, h => by
    obtain ⟨h1, h2⟩ := leL_reps as bs h.2
    refine ⟨by simp [h1], fun vs hr => ?_⟩
    cases vs with
    | nil => have := hr.1; simp at this
    | cons v vs =>
      have h3 := h2 vs ⟨by simpa using hr.1, fun i f u hf hu => hr.2 (i + 1) f u (by simpa using hf) (by simpa using hu)⟩
      refine ⟨by simp [h3.1], fun i f u hf hu => ?_⟩
      cases i with
      | zero => simp at hf hu; subst hf hu; exact leV_rep h.1 (hr.2 0 a v rfl rfl)
      | succ i => exact h3.2 i f u (by simpa using hf) (by simpa using hu)

/-- Arguments that tell more. -/
theorem fs_le {P : Program} {f : FuncId} {as bs : List SV} {res : SV} (h : FS P f bs res) (hl : leL 0 as bs) : FS P f as res :=
  ⟨h.1, fun w A vs hfin hlen hr => by
    obtain ⟨h1, h2⟩ := leL_reps (w := w) (A := A) as bs hl
    have := h2 vs ⟨hlen, hr⟩
    exact h.2 w A vs hfin this.1 this.2⟩
theorem fo_le {P : Program} {f : FuncId} {as bs : List SV} {res : SV} {Hn : List Blk} (h : FO P f bs res Hn) (hl : leL 0 as bs) : FO P f as res Hn :=
  ⟨h.1, fun w A vs hfin hr => h.2 w A vs hfin ((leL_reps (w := w) (A := A) as bs hl).2 vs hr)⟩

/-- A table. -/
def tab {α : Type} (n : Nat) (g : Nat → α) : List α := (List.range n).map g
theorem tab_len {α : Type} (n : Nat) (g : Nat → α) : (tab n g).length = n := by simp [tab]
theorem tab_get {α : Type} {n : Nat} (g : Nat → α) {i : Nat} (h : i < n) : (tab n g)[i]? = some (g i) := by simp [tab, h]
theorem tab_ext {α : Type} {n : Nat} {l : List α} {g : Nat → α} (h : l.length = n) (hg : ∀ i, i < n → l[i]? = some (g i)) : l = tab n g := by
  refine List.ext_getElem? fun i => ?_
  by_cases hi : i < n
  · rw [hg i hi, tab_get g hi]
  · rw [List.getElem?_eq_none (by omega), List.getElem?_eq_none (by rw [tab_len]; omega)]
theorem tab_congr {α : Type} {n : Nat} {g g' : Nat → α} (h : ∀ i, i < n → g i = g' i) : tab n g = tab n g' :=
  tab_ext (tab_len n g) fun i hi => by rw [tab_get g hi, h i hi]
theorem tab_set {α : Type} {n k : Nat} (g z : Nat → α) : (tab n fun i => if i < k then g i else z i).set k (g k) = tab n fun i => if i < k + 1 then g i else z i := by
  refine tab_ext (by simp [tab]) fun i hi => ?_
  rw [List.getElem?_set, tab_len]
  by_cases e : k = i
  · subst e; simp [hi]
  · rw [if_neg e, tab_get _ hi]
    by_cases h : i < k
    · rw [if_pos h, if_pos (by omega)]
    · rw [if_neg h, if_neg (by omega)]
theorem tab_full {α : Type} {n k : Nat} (g z : Nat → α) (h : n ≤ k) : (tab n fun i => if i < k then g i else z i) = tab n g :=
  tab_congr fun i hi => by rw [if_pos (by omega)]
theorem tab_zero {α : Type} (n : Nat) (g : Nat → α) (z : α) : List.replicate n z = tab n fun i => if i < 0 then g i else z :=
  tab_ext (by simp) fun i hi => by simp [hi]

theorem bAnd_63 (n : Int) : bAnd .i64 n 63 = n % 64 := by
  unfold bAnd
  have h : (BitVec.ofInt IntKind.i64.bits n &&& BitVec.ofInt IntKind.i64.bits 63).toNat = (n % 64).toNat := by
    rw [BitVec.toNat_and]
    show (BitVec.ofInt 64 n).toNat &&& 63 = _
    rw [show (BitVec.ofInt 64 n).toNat &&& 63 = (BitVec.ofInt 64 n).toNat % 64 from and_mask _ 6, BitVec.toNat_ofInt]
    omega
  rw [h, wrap_i64_id (by omega) (by omega)]
  omega

theorem pow_lt64 {k : Nat} (h : k < 64) : 2 ^ k < 18446744073709551616 := by
  have := Nat.pow_lt_pow_right (a := 2) (by omega) h
  simpa using this

theorem pure_ren (sel : List Nat) : ∀ x : SV, x.pure = true → renV sel x = x := by
  intro x h; cases x <;> first | rfl | cases h
theorem pure_rens {m : Nat} : ∀ (xs : List SV), SV.pure.pureL xs = true → xs.map (renV []) = xs ∧ xs.all (okCap m) = true
  | [], _ => ⟨rfl, rfl⟩
  | x :: xs, h => by
    simp only [SV.pure.pureL, Bool.and_eq_true] at h
    obtain ⟨h1, h2⟩ := pure_rens (m := m) xs h.2
    refine ⟨by rw [List.map_cons, pure_ren _ x h.1, h1], ?_⟩
    rw [List.all_cons, h2, Bool.and_true]
    cases x <;> first | exact h.1 | cases h.1

/-- A range over a function that is handed no block of one's own. -/
theorem RngP.plain {P : Program} {M : Nat} {ks : List Nat} {y : Yv} {gf : FuncId} {caps : List SV} {ps : List Nat} {e : Env} {H : List Blk} {g : Option Nat} {K : Ex → Env → List Blk → Option Nat → Prop}
    {assign body : Nat → List Nat → Env → List Blk → (Ex → Env → List Blk → Option Nat → Prop) → Prop} (hy : y.out = true) (hp : SV.pure.pureL caps = true) {xs : List (List SV)} (hit : IT P gf caps [] xs) (kl : List Nat) (hkl : ∀ k ∈ kl, M ≤ k ∨ k ∈ ks) (SH : Nat → List Blk) (ok : Nat → Prop)
    (h0 : leH H.length H (SH 0)) (hok : ok 0)
    (hb : ∀ (i : Nat) (x : List SV), xs[i]? = some x → ok i → x.length = ps.length ∧
        assign H.length kl (bindE ps x (killEs kl e)) (SH i) fun ex e' H' _ => match ex with
          | .normal => body H.length kl e' H' fun ex _ H'' _ => match ex with
            | .normal => ok (i + 1) ∧ leH H''.length H'' (SH (i + 1))
            | ex => K ex (killEs kl e) H'' g
          | _ => False)
    (hend : ok xs.length → K .normal (killEs kl e) (SH xs.length) g) : RngP P M ks y (.fn gf caps) ps e H g K assign body :=
  ⟨hy, [], kl, caps, [], xs, SH, ok, hit, (pure_rens (m := 0) caps hp).1, (pure_rens caps hp).2, rfl, rfl, List.nodup_nil, fun k hk => hk.elim (fun h => by simp at h) (hkl k), h0, hok, hb, hend⟩

theorem ar_tdiv {a b : Int} {K : Int → Prop} (ha : 0 ≤ a) (hb : 0 < b) (h : a ≤ 9223372036854775807) (hK : K (a / b)) : ∃ z', Ar .i64 (a.tdiv b) z' ∧ K z' := by
  refine ⟨a / b, Or.inl ⟨?_, (Int.tdiv_eq_ediv_of_nonneg ha).symm⟩, hK⟩
  rw [Int.tdiv_eq_ediv_of_nonneg ha]
  have h1 : 0 ≤ a / b := Int.ediv_nonneg ha (by omega)
  have h2 : a / b ≤ a := Int.ediv_le_self b ha
  exact ⟨by omega, by omega⟩

theorem fs_res {P : Program} {f : FuncId} {args : List SV} {r r' : SV} (h : FS P f args r) (hl : leV 0 r r') : FS P f args r' :=
  ⟨h.1, fun w A vs hfin hlen hr => (h.2 w A vs hfin hlen hr).mono fun _ _ ⟨v, h1, h2, h3⟩ => ⟨v, h1, h2, leV_rep hl h3⟩⟩

/-! ### Steps -/
section
variable {P : Program} {M : Nat} {ks : List Nat} {y : Yv} {e : Env} {H : List Blk} {g : Option Nat}

theorem dvc_nil {K : Env → List Blk → Prop} (h : K e H) : dvc P [] e H K := h
theorem dvc_cons {i : Ins} {is : List Ins} {K : Env → List Blk → Prop} (h : guardK e i.guard (fun e => dop P i.op e H fun sv Hn => fc sv fun sv => fhj H Hn fun H => dvc P is (setE e i.dst sv) H K) (fun e => dvc P is (setE e i.dst (.tup [])) H K)) : dvc P (i :: is) e H K := h
theorem rvc_nil {K : Env → List Blk → Option Nat → Prop} (h : K e H g) : rvc P M ks y [] e H g K := h
theorem rvc_cons {i : Ins} {is : List Ins} {K : Env → List Blk → Option Nat → Prop} (h : guardK e i.guard (fun e => yop P M ks y i.op e H g fun sv e H g => fc sv fun sv => fhi i.op H fun H => rvc P M ks y is (setE e i.dst sv) H g K) (fun e => rvc P M ks y is (setE e i.dst (.tup [])) H g K)) : rvc P M ks y (i :: is) e H g K := h
variable {K : Ex → Env → List Blk → Option Nat → Prop}
theorem cvc_skip (h : K .normal e H g) : cvc P M ks y .skip e H g K := h
theorem cvc_reg {ops : List Ins} (h : rvc P M ks y ops e H g (K .normal)) : cvc P M ks y (.reg ops) e H g K := h
theorem cvc_draw {hd tl : List Ins} (h : dvc P hd e H fun e H => rvc P M ks y tl e H g (K .normal)) : cvc P M ks y (.draw hd tl) e H g K := h
theorem cvc_seq {a b : IR} (h : cvc P M ks y a e H g fun ex e H g => match ex with
    | .normal => cvc P M ks y b e H g K
    | ex => K ex e H g) : cvc P M ks y (.seq a b) e H g K := h
theorem cvc_cond {c : Opd} {a b : IR} (h : match ev e c with
    | .bool t => Br t (cvc P M ks y a (setB e c true) H g K) (cvc P M ks y b (setB e c false) H g K)
    | .anyb => cvc P M ks y a (setB e c true) H g K ∧ cvc P M ks y b (setB e c false) H g K
    | _ => False) : cvc P M ks y (.cond c a b) e H g K := h
theorem cvc_block {id : Nat} {a : IR} (h : cvc P M ks y a e H g fun ex e H g => match ex with
    | .exit i => if i = id then K .normal e H g else K (.exit i) e H g
    | ex => K ex e H g) : cvc P M ks y (.block id a) e H g K := h
theorem cvc_loop {a : IR} (h : LoopP e H g K fun e H g K => cvc P M ks y a e H g K) : cvc P M ks y (.loop a) e H g K := h
theorem cvc_exit {id : Nat} (h : K (.exit id) e H g) : cvc P M ks y (.exit id) e H g K := h
theorem cvc_ret (h : K .ret e H g) : cvc P M ks y .ret e H g K := h
theorem cvc_rng {f : Opd} {ps : List Nat} {a b : IR} (h : RngP P M ks y (ev e f) ps e H g K (fun M ks e H K => cvc P M ks noY a e H none K) (fun M ks e H K => cvc P M ks noY b e H none K)) : cvc P M ks y (.rng f ps a b) e H g K := h
end

theorem Br.bne {a b : Bool} {T F : Prop} (e : a = b) (h : F) : Br (a != b) T F := ⟨fun h' => by subst e; simp at h', fun _ => h⟩

end Go.Proofs.Ytefciekodhpefaa
