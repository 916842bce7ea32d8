/- What is shown of code is what it does: contracts of functions. -/
import Derived.Test.YtefciekodhpefaaSu
namespace Go.Proofs.Ytefciekodhpefaa
open Go.RowKit

section
variable {P : Program} {H : List Blk}

/-! ### Functions -/

def argE : Nat → List SV → Env
  | _, [] => []
  | i, x :: xs => (i, x) :: argE (i + 1) xs

theorem look_argE : ∀ (xs : List SV) (i t : Nat), look (argE i xs) t = if i ≤ t then (xs[t - i]?).getD .any else .any
  | [], i, t => by simp [argE, look]
  | x :: xs, i, t => by
    simp only [argE, look]
    split
    · rename_i h; subst h; simp
    · rename_i h
      rw [look_argE xs (i + 1) t]
      by_cases hle : i ≤ t
      · rw [if_pos (by omega), if_pos hle, show t - i = t - (i + 1) + 1 by omega]; rfl
      · rw [if_neg (by omega), if_neg hle]

def finK (ex : Ex) (p : Prop) : Prop :=
  match ex with
  | .exit _ => False
  | _ => p

theorem Yok.nil {A0 : Nat → Prop} {y : Yv} (hy : y.xs = []) {β0 : List (Option Nat)} : Yok P A0 y ⟨fun b => some b ∈ β0, fun _ _ _ _ => True⟩ :=
  ⟨fun _ _ _ _ _ _ _ _ _ _ _ _ => trivial, fun _ _ _ _ _ _ _ _ => trivial, fun _ h => absurd hy h, fun i x us w A β hx => by rw [hy] at hx; simp at hx⟩

/-- A function that calls no yield of its caller's. -/
def outY : Yv := ⟨true, 0, []⟩

theorem args_env {w : World} {A : Nat → Prop} {β : List (Option Nat)} {args : List SV} {vs : List Value} {N : Nat} (hr : Reps w A β args vs) : EnvRel w A β (argE 0 args) (vs.toArray ++ Array.replicate (N - vs.toArray.size) undef) := by
  intro t
  rw [look_argE, if_pos (Nat.zero_le _), Nat.sub_zero]
  by_cases ht : t < args.length
  · have hv : t < vs.length := by rw [hr.1]; exact ht
    have := hr.2 t args[t] vs[t] (by simp [ht]) (by simp [hv])
    simpa [ht, Array.getD_eq_getD_getElem?, hv, Array.getElem?_append] using this
  · rw [List.getElem?_eq_none (by omega)]; exact .any _ _

/-- What is known of a function's code. -/
structure Code1 (P : Program) (f : FuncId) (N : Nat) (ir : IR) (rs : List RV) : Prop where
  enter : ∀ vs w, (callFunc f vs).run P w = .ok (.enter f vs) w
  code : ∃ (fn : Func) (c : Code), P.funcs[f]? = some fn ∧ fn.body = some c ∧ fn.ntmps = N ∧ comp P N c = some ir ∧ lawsB P N c = true ∧ fn.results.toList.mapM (cRes P) = some rs

/-- **WHAT A FUNCTION DOES.** -/
theorem calls_of_cvc (hm : P.follows .mixedOrders = true) {f : FuncId} {N : Nat} {ir : IR} {rs : List RV} (hc : Code1 P f N ir rs) {M : Nat} {ks : List Nat} {args : List SV} (hN : args.length ≤ N) {R : SV → List Blk → Option Nat → Prop}
    {w : World} {A : Nat → Prop} {β : List (Option Nat)} {vs : List Value} {y : Yv} {Y : Ysem} {g : Option Nat} (hY : Yok P A y Y) (hB : ∀ b, some b ∈ β → Y.B0 b) (h : cvc P M ks y ir (argE 0 args) H g fun ex e' H' g' => finK ex (resK rs e' H' fun sv => R sv H' g'))
    (hfin : ∀ b, A b → b < w.heap.size) (hW : WRel w A β H) (hr : Reps w A β args vs) (hX : Y.X g w A β) :
    Calls P f vs.toArray w fun e w' => ∃ (v : Value) (A' : Nat → Prop) (β' : List (Option Nat)) (sv : SV) (H' : List Blk) (g' : Option Nat), e = .returned v ∧ R sv H' g' ∧ CurX Y.B0 w A β M ks w' A' β' H' ∧ Rep w' A' β' sv v ∧ (y.out = false → Y.X g' w' A' β') := by
  obtain ⟨fn, c, hf, hb, rfl, hcomp, hl, hrs⟩ := hc.code
  refine callsIn_wide.1 (callsIn_of_wp_marks (n := 0) hf hb trivial ?_)
  have hsz : (vs.toArray ++ Array.replicate (fn.ntmps - vs.toArray.size) undef).size = fn.ntmps := by
    simp [hr.1]; omega
  refine cvc_sound (r := none) hm c ir hcomp hl w A β _ _ y Y hY (fun _ => rfl) _ _ _ _ _ _ A β _ h ⟨⟨hW, hfin, FrmB.refl _ _, fun _ _ => Iff.rfl, fun _ _ h _ => List.mem_of_getElem? h, fun _ _ _ => rfl, Nat.le_refl _, hB⟩, args_env hr, hsz, ⟨[], List.nodup_nil, rfl, fun r h => by simp at h⟩, fun _ => rfl, hX⟩ fun ex e' H' g' a' w' A' β' hk hs => ?_
  obtain ⟨w'', hw, hcur, henv, hlv⟩ := hs.leave (F := Fr none) (m := 0) (P := P)
  have fin : finK ex (resK rs e' H' fun sv => R sv H' g') → LeavesInM (Fr none) 0 P fn a'.tmps (fun e w' => ∃ (v : Value) (A' : Nat → Prop) (β' : List (Option Nat)) (sv : SV) (H' : List Blk) (g' : Option Nat), e = .returned v ∧ R sv H' g' ∧ CurX Y.B0 w A β M ks w' A' β' H' ∧ Rep w' A' β' sv v ∧ (y.out = false → Y.X g' w' A' β')) a'.defers .returning w' := fun hk => by
    have hk' : resK rs e' H' fun sv => R sv H' g' := by cases ex <;> first | exact hk | exact hk.elim
    obtain ⟨sv, hR, hrun⟩ := resK_run hrs hk'
    obtain ⟨v, h1, h2⟩ := hrun w'' A' β' a'.tmps hcur.rel.wb henv
    exact hlv fn _ ⟨v, h1, v, A', β', sv, H', g', rfl, hR, hcur, h2, fun ho => by rw [hw ho]; exact hs.inv⟩
  cases ex with
  | normal => exact fin hk
  | ret => exact fin hk
  | exit id => exact hk.elim

theorem fs_of_cvc (hm : P.follows .mixedOrders = true) {f : FuncId} {N : Nat} {ir : IR} {rs : List RV} (hc : Code1 P f N ir rs) {args : List SV} {res : SV} (hN : args.length ≤ N)
    (h : cvc P 0 [] outY ir (argE 0 args) [] none fun ex e' H' _ => finK ex (resK rs e' H' fun sv => frzK 4 H' sv fun y => leV 0 y res)) : FS P f args res := by
  refine ⟨hc.enter, fun w A vs hfin hlen hr => (calls_of_cvc hm hc hN (R := fun sv H' _ => frzK 4 H' sv fun y => leV 0 y res) (Yok.nil (β0 := []) rfl) (fun b h => by simp at h) h hfin (WRel.nil w A) ⟨hlen, hr⟩ trivial).mono ?_⟩
  rintro e w' ⟨v, A', β', sv, H', g', rfl, hR, hcur, hrep, _⟩
  obtain ⟨y, hy, hfz⟩ := frzK_sound 4 sv _ hR
  refine ⟨v, rfl, ⟨hcur.frm.os, hcur.frm.tape, hcur.frm.output, hcur.frm.size, fun b hb => hcur.frm.keep b hb (by simp)⟩, leV_rep hy (hfz w' A' A β' v hcur.rel.wb (fun b hb => (hcur.agree b (hfin b hb)).2 hb) (fun k b hk ha => ?_) hrep)⟩
  have := hcur.fresh k b hk (hfin b ha)
  simp at this

theorem hs_of_cvc (hm : P.follows .mixedOrders = true) {f : FuncId} {N : Nat} {ir : IR} {rs : List RV} (hc : Code1 P f N ir rs) {args : List SV} {res : SV} {Hr : List Blk} {ks : List Nat} (hN : args.length ≤ N)
    (h : cvc P H.length ks outY ir (argE 0 args) H none fun ex e' H' _ => finK ex (resK rs e' H' fun sv => leV H'.length sv res ∧ leH H'.length H' Hr)) : HS P f args H res Hr ks := by
  refine ⟨hc.enter, fun w A β vs hfin hW hr => (calls_of_cvc hm hc hN (R := fun sv H' _ => leV H'.length sv res ∧ leH H'.length H' Hr) (Yok.nil (β0 := β) rfl) (fun b h => h) h hfin hW hr trivial).mono ?_⟩
  rintro e w' ⟨v, A', β', sv, H', g', rfl, ⟨hR, hRH⟩, hcur, hrep, _⟩
  have hw := (hcur.weaken hRH).cur
  refine ⟨v, A', _, rfl, hw.frm, hw.fin, hw.rel, hw.agree, hw.fresh, fun k hk hn => hw.same k hk fun h => ?_, hw.more, leV_rep hR (hrep.more _ nones_more)⟩
  rcases h with h | h
  · have := hW.len; omega
  · exact hn h

/-- What a function hands over: the blocks that sel names; or nothing yet. -/
def FoP (H' : List Blk) (sv res : SV) (Hn : List Blk) : Prop :=
  (∃ sel : List Nat, renV sel res = sv ∧ sel.map (fun k => H'[k]?) = Hn.map some ∧ sel.Nodup ∧ Hn.all okBlk = true ∧ okCap sel.length res = true) ∨ (sv = .nils ∧ ∃ wd, res = .osl 0 wd 0 0 ∧ Hn = [.arr wd []])

theorem fo_of_cvc (hm : P.follows .mixedOrders = true) {f : FuncId} {N : Nat} {ir : IR} {rs : List RV} (hc : Code1 P f N ir rs) {args : List SV} {res : SV} {Hn : List Blk} (hN : args.length ≤ N)
    (h : cvc P 0 [] outY ir (argE 0 args) [] none fun ex e' H' _ => finK ex (resK rs e' H' fun sv => FoP H' sv res Hn)) : FO P f args res Hn := by
  refine ⟨hc.enter, fun w A vs hfin hr => (calls_of_cvc hm hc hN (R := fun sv H' _ => FoP H' sv res Hn) (Yok.nil (β0 := []) rfl) (fun b h => by simp at h) h hfin (WRel.nil w A) hr trivial).mono ?_⟩
  rintro e w' ⟨v, A', β', sv, H', g', rfl, hR, hcur, hrep, _⟩
  have hbelow : Below w.heap.size w w' := ⟨hcur.frm.os, hcur.frm.tape, hcur.frm.output, hcur.frm.size, fun b hb => hcur.frm.keep b hb (by simp)⟩
  have hAA : ∀ b, A b → A' b := fun b hb => (hcur.agree b (hfin b hb)).2 hb
  have hnew : ∀ b, some b ∈ β' → w.heap.size ≤ b := fun b hb => by
    obtain ⟨k, hk⟩ := mem_name hb
    by_cases hlt : b < w.heap.size
    · have := hcur.fresh k b hk hlt; simp at this
    · omega
  rcases hR with ⟨sel, hren, hsel, hnd, hp, hok⟩ | ⟨rfl, wd, rfl, rfl⟩
  · have hmem : ∀ b, some b ∈ namesOf sel β' → some b ∈ β' := fun b hb => by
      obtain ⟨j, hj⟩ := mem_name hb
      obtain ⟨k, _, hk⟩ := namesOf_get hj
      exact List.mem_of_getElem? hk
    have hsub : ∀ b, (A b ∨ some b ∈ namesOf sel β') → A' b := fun b hb => by
      rcases hb with hb | hb
      · exact hAA b hb
      · obtain ⟨k, hk⟩ := mem_name (hmem b hb)
        exact (hcur.rel.own k b hk).1
    have hW := hcur.rel.names hsel hp hnd
    refine ⟨v, namesOf sel β', rfl, hbelow, ⟨hW.len, hW.inj, fun k b hk => ⟨.inr (List.mem_of_getElem? hk), (hW.own k b hk).2⟩, fun k o blk hk hb => (hW.blk k o blk hk hb).keep (Stp.refl _ _) (fun b _ hb => hsub b hb) (fun _ _ h => h) fun _ _ => rfl⟩, fun b hb => hnew b (hmem b hb), ?_⟩
    have h1 := (reps_names (sel := sel) (caps := [res]) (vs := [v]) (β := β') ⟨rfl, fun i f u hf hu => by
      cases i with
      | zero => simp at hf hu; subst hf hu; rw [hren]; exact hrep
      | succ i => simp at hf⟩ (by simp [hok])).2 0 res v rfl rfl
    exact h1.mono (Stp.refl _ _) fun b _ hb => hsub b hb
  · refine ⟨v, [none], rfl, hbelow, ⟨rfl, fun k k' b hk => ?_, fun k b hk => ?_, fun k o blk hk hb => ?_⟩, fun b hb => by simp at hb, ?_⟩
    · cases k <;> simp at hk
    · cases k <;> simp at hk
    · cases k with
      | zero => simp at hk; subst hk; trivial
      | succ k => simp at hk
    · cases hrep
      exact .oslZ _ _ _ _ _

/-- An iterator's contract, from its code. -/
theorem it_of_cvc (hm : P.follows .mixedOrders = true) {f : FuncId} {N : Nat} {ir : IR} {rs : List RV} (hc : Code1 P f N ir rs) {caps : List SV} {Hc : List Blk} {xs : List (List SV)} {ks : List Nat} (hN : caps.length + 1 ≤ N)
    (h : ∀ l, cvc P Hc.length ks ⟨false, l, xs⟩ ir (argE 0 (.raw (.func (.yield l) #[] #[]) :: caps)) Hc (some 0) fun ex e' H' g => finK ex (resK rs e' H' fun _ => g = some xs.length ∨ g = none)) : IT P f caps Hc xs := by
  refine ⟨hc.enter, fun l w A β vs J hfin hW hr h0 hstab hyield => ?_⟩
  have hY : Yok P A ⟨false, l, xs⟩ ⟨A, fun g w A β => J g (fun b => some b ∈ β) A w ∧ ∀ b, some b ∈ β → A b⟩ := by
    refine ⟨fun g w A β M ks w2 A2 β2 H2 hX hcur => ⟨hstab _ _ _ _ _ _ _ hX.1 ⟨hcur.frm.os, hcur.frm.tape, hcur.frm.output, hcur.frm.size, hcur.frm.keep, hcur.frm.shp, hcur.agree, hcur.fin, fun b hb => ?_, fun b hb => ?_⟩, fun b hb => ?_⟩, fun g w A β β2 hfin hs hX => ⟨hstab _ _ _ _ _ _ _ hX.1 ⟨rfl, rfl, rfl, Nat.le_refl _, fun _ _ _ => rfl, fun _ cs _ fr h => ⟨cs, fr, h, rfl⟩, fun _ _ => Iff.rfl, hfin, fun b hb => .inl (hs b hb).1, fun b hb => (hs b hb).2⟩, fun b hb => (hs b hb).2⟩, fun _ _ b h => h, fun i x us w A β hx hX hfin hown hrx => ?_⟩
    · obtain ⟨k, hk⟩ := mem_name hb
      by_cases hlt : b < w.heap.size
      · exact .inl (hcur.fresh k b hk hlt)
      · exact .inr (by omega)
    · obtain ⟨k, hk⟩ := mem_name hb
      exact (hcur.rel.own k b hk).1
    · obtain ⟨k, hk⟩ := mem_name hb
      exact (hcur.rel.own k b hk).1
    · obtain ⟨fn, tmps, assign, body, h1, h2⟩ := hyield i x us (fun b => some b ∈ β) A w hx hX.1 hfin hown hrx
      refine ⟨fn, tmps, assign, body, h1, h2.mono ?_⟩
      rintro e W' ⟨b, A', rfl, hJ, hr⟩
      exact ⟨b, A', rfl, ⟨hJ, fun b hb => (hr.agree b (hfin b (hown b hb))).2 (hown b hb)⟩, hr⟩
  have hnames : ∀ b, some b ∈ β → A b := fun b hb => by obtain ⟨k, hk⟩ := mem_name hb; exact (hW.own k b hk).1
  have hr' : Reps w A β (.raw (.func (.yield l) #[] #[]) :: caps) (.func (.yield l) #[] #[] :: vs) := ⟨by simp [hr.1], fun i f v h1 h2 => by
    cases i with
    | zero => simp at h1 h2; subst h1 h2; exact .raw _ _
    | succ i => exact hr.2 i f v (by simpa using h1) (by simpa using h2)⟩
  refine (calls_of_cvc hm hc (by simpa using hN) (R := fun _ _ g => g = some xs.length ∨ g = none) hY hnames (h l) hfin hW hr' ⟨h0, hnames⟩).mono ?_
  rintro e w' ⟨v, A', β', sv, H', g', rfl, hg, hcur, hrep, hX⟩
  exact ⟨v, g', _, A', rfl, hg, (hX rfl).1⟩

end
end Go.Proofs.Ytefciekodhpefaa
