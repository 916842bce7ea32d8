/- What is shown of code is what it does: the region that draws its order, at its place. -/
import Derived.Test.YtefciekodhpefaaSp
namespace Go.Proofs.Ytefciekodhpefaa
open Go.RowKit

section
variable {P : Program} {w0 : World} {A0 : Nat → Prop} {β0 : List (Option Nat)} {M : Nat} {ks : List Nat} {w : World} {A : Nat → Prop} {β : List (Option Nat)} {H : List Blk}

theorem mapM_spec {f : Oper → Option Ins} : ∀ {l : List Oper} {is : List Ins}, l.mapM f = some is → is.length = l.length ∧ (∀ k : Nat, (l.take k).mapM f = some (is.take k)) ∧ (∀ k : Nat, (l.drop k).mapM f = some (is.drop k)) ∧ ∀ (o : Oper), o ∈ l → ∃ i, f o = some i
  | [], is, h => by simp at h; subst h; simp
  | o :: l, is, h => by
    have h' := h
    simp only [List.mapM_cons, Option.bind_eq_bind, Option.pure_def] at h
    obtain ⟨i, hi, h⟩ := Option.bind_eq_some_iff.1 h
    obtain ⟨is', his, h⟩ := Option.bind_eq_some_iff.1 h
    cases h
    obtain ⟨h1, h2, h3, h4⟩ := mapM_spec his
    refine ⟨by simp [h1], fun k => ?_, fun k => ?_, fun o' ho' => ?_⟩
    · cases k with
      | zero => simp
      | succ k => simp [List.mapM_cons, hi, h2 k]
    · cases k with
      | zero => simpa using h'
      | succ k => simpa using h3 k
    · rcases List.mem_cons.1 ho' with h | h
      · exact ⟨i, h ▸ hi⟩
      · exact h4 o' h

theorem wpOpIn_round {m : Nat} {r : Option Nat} {ops : Array Oper} {i : Nat} {a : Act} {w : World} {K : Act → World → Prop} {Q : Exit → Act → World → Prop} (hd : ∀ o, ops[i]? = some o → ∀ c, o.op ≠ .defer c) (h : wpOpIn Fence.wide m P ops Q i K a w) : wpOpIn (Fr r) m P ops Q i K a w := by
  unfold wpOpIn at *
  split
  · rename_i ho
    simpa [ho] using h
  · rename_i o ho
    simp only [ho] at h
    split
    · rename_i hw
      rw [if_pos hw] at h
      exact wpIn_round (hd o ho) h
    · rename_i hw
      rw [if_neg hw] at h
      exact h

theorem wpAnyIn_round {m : Nat} {r : Option Nat} {md : Region.Mode} {ops : Array Oper} {Q : Exit → Act → World → Prop} (hd : ∀ (i : Nat) (o : Oper), ops[i]? = some o → ∀ c, o.op ≠ .defer c) : ∀ (fuel : Nat) (l : Array Bool) (a : Act) (w : World),
    wpAnyIn Fence.wide m P md ops Q fuel l a w → wpAnyIn (Fr r) m P md ops Q fuel l a w
  | 0, l, a, w, h => h
  | fuel + 1, l, a, w, h => ⟨h.1, fun i hi => wpOpIn_mono (fun a w h => wpAnyIn_round hd fuel _ a w h) (wpOpIn_round (hd i) (h.2 i hi))⟩

/-- **A REGION THAT DRAWS ITS ORDER.** -/
theorem draw_sound (hm : P.follows .mixedOrders = true) {y : Yv} {Y : Ysem} (hY : Yok P A0 y Y) {m id n N : Nat} {r : Option Nat} {l : List Oper} {is : List Ins} {e : Env} {g : Option Nat} {K : Env → List Blk → Option Nat → Prop} {Q : Exit → Act → World → Prop} {a : Act} (his : l.mapM (cIns P l.toArray N) = some is) (hB : Region.lawB l.toArray n N = true)
    (h : dvc P (is.take n) e H fun e H => rvc P M ks y (is.drop n) e H g K) (hS : Sta w0 A0 β0 M ks N y Y g e H a w A β)
    (hQ : ∀ e' H' g' a' w' A' β', K e' H' g' → Sta w0 A0 β0 M ks N y Y g' e' H' a' w' A' β' → Q .normal a' w') : (Code.region id l.toArray true).wpIn (Fr r) m P Q a w := by
  obtain ⟨hlen, htake, hdrop, hall⟩ := mapM_spec his
  refine wpIn_mono (Q := fun ex a w => match ex with | .normal => Q .normal a w | _ => False) (wpIn_region_any hm (wpAnyIn_round (fun i o ho => ?_) _ _ _ _ ?_)) (fun ex a w hq => by cases ex <;> first | exact hq | exact hq.elim)
  · obtain ⟨i', hi'⟩ := hall o (by simpa using List.mem_of_getElem? (by simpa using ho))
    exact cop_defer (cIns_spec hi').1
  have hB' := hB
  simp only [Region.lawB, Bool.and_eq_true, Bool.or_eq_true, decide_eq_true_eq] at hB'
  obtain ⟨⟨⟨⟨hsel, hpair⟩, hback⟩, hdst⟩, hn⟩ := hB'
  have hnl : n ≤ l.length := by rcases hn with h | h <;> simp at h <;> omega
  have hol : (l.take n).length = n := by simp; omega
  have hops : ∀ (k : Nat) (o : Oper), k < n → l.toArray[k]? = some o → (l.take n)[k]? = some o := fun k o hk ho => by
    rw [List.getElem?_take_of_lt hk]; simpa using ho
  obtain ⟨Hn, e', G, S, hK, hs⟩ := dvc_list hS.cur.rel (ops := l.toArray) (N := N) (l.take n) (is.take n) (htake n) e [] _ (by simpa using h)
  simp only [List.append_nil] at hK
  have hS0 : S 0 = 0 := hs.s0
  have hS1 : S n = Hn.length := by have := hs.s1; rw [hol] at this; simpa using this
  have hup : ∀ k, k < n → S k ≤ S (k + 1) := fun k hk => hs.up k (by omega)
  have hmon : ∀ i j, i ≤ j → j ≤ n → S i ≤ S j := by
    intro i j hij
    induction j with
    | zero => intro _; cases Nat.le_zero.1 hij; exact Nat.le_refl _
    | succ j ih =>
      intro hj
      by_cases h' : i = j + 1
      · subst h'; exact Nat.le_refl _
      · exact Nat.le_trans (ih (by omega) (by omega)) (hup j (by omega))
  let g0 : List (Option Nat) := List.replicate Hn.length none
  have hg0 : ∀ b : Nat, some b ∉ g0 := fun b hb => by have := (List.mem_replicate.1 hb).2; cases this
  have hg0k : ∀ (k b : Nat), g0[k]? ≠ some (some b) := fun k b h => hg0 b (List.mem_of_getElem? h)
  obtain ⟨r1, r2, r3, r4⟩ := hs.all Hn (by simp) 0 G (fun t => RF A β (look e t)) (fun k => S (min k n)) (fun k o ho => by
      have : k < (l.take n).length := (List.getElem?_eq_some_iff.1 ho).1
      rw [List.getElem?_take_of_lt (by omega)] at ho; simpa using ho) (fun k _ => by simp) (fun k hk => by rw [hol] at hk; simp [Nat.min_eq_left hk]) (fun i j hij => hmon (min i n) (min j n) (by omega) (Nat.min_le_right _ _)) (fun t v s h => h)
  rw [hol] at r1
  simp only [Nat.zero_add] at r1 r2 r4
  have hbd : Below w.heap.size w w.drew := (Below.refl _ _).drew
  have hokk0 : Okk w A β Hn (w.drew, g0) := ⟨fun b hb => by
      rcases hb with hb | hb
      · exact hS.cur.fin b hb
      · exact absurd hb (hg0 b), fun k k' b hk => absurd hk (hg0k k b), fun b hb => absurd hb (hg0 b), by simp [g0], fun k b blk hk => absurd hk (hg0k k b)⟩
  have hC0 : ∀ t, RF A β (look e t) (a.tmps.getD t undef) (w.drew, g0) := fun t => ((hS.env t).mono (Stp.below hbd) (fun b _ ha => by
      rcases ha with ha | ha
      · exact ha
      · exact absurd ha (hg0 b))).more _ fun k b hk => by
        rw [List.getElem?_append_left (List.getElem?_eq_some_iff.1 hk).1]; exact hk
  refine region_law (R := RS w A β Hn) (U := UU fun k => S (min k n)) (F := G) (C0 := fun t => RF A β (look e t)) (s0 := (w.drew, g0)) rfl g0 rfl RS.refl RS.trans hS.size hB (fun c a w h => h) (fun k q h1 h2 => ?_) hC0 (fun t v s s' hR hr => rep_step hR hr) (fun j oj hj hoj => r2 j oj (hops j oj hj hoj) _ _ hokk0 hbd) (fun i oi x hi hoi hf hx => ?_) (fun a' s hR hsz hds hcat => ?_)
  · have : S (min (k + 1) n) ≤ Hn.length := by rw [← hS1]; exact hmon _ _ (Nat.min_le_right _ _) (Nat.le_refl _)
    have h2' : q < S (min (k + 1) n) := h2
    show (List.replicate Hn.length none)[q]? = some none
    rw [List.getElem?_replicate_of_lt (by omega)]
  · obtain ⟨hg, _, _, _, hap⟩ := freeB_spec hf
    refine r4 i oi x (hops i oi hi hoi) hg hx a _ fun t ht => ?_
    rcases cat_cases (ops := l.toArray) G (fun t => RF A β (look e t)) i t with ⟨j, oj, hj, hoj, hdj, _, _⟩ | ⟨_, hc⟩
    · rcases hap j oj hoj (by omega) with ⟨e, he, hb, hon⟩ | hapt
      · have := back_spec hback hoj he hb
        omega
      · have hl : t ∈ oi.looksAt l.toArray := List.mem_append_left _ (List.mem_filterMap.2 ⟨.tmp t, by simp [hx, Op.operands, ht], rfl⟩)
        exact absurd hl ((Oper.apart_spec hapt).2.2 t hdj)
    · rw [hc]; exact hC0 t
  · have hok := hR.okk hokk0
    have hbw : Below w.heap.size w s.1 := hbd.trans hR.below
    have hWRl := hS.cur.rel
    have hnew : ∀ (k b : Nat), (β ++ s.2)[k]? = some (some b) → (k < β.length ∧ β[k]? = some (some b)) ∨ (β.length ≤ k ∧ s.2[k - β.length]? = some (some b)) := fun k b hk => by
      by_cases hl : k < β.length
      · rw [List.getElem?_append_left hl] at hk; exact .inl ⟨hl, hk⟩
      · rw [List.getElem?_append_right (by omega)] at hk; exact .inr ⟨by omega, hk⟩
    have hcur : Cur w A β M ks s.1 (AS A s) (β ++ s.2) (H ++ Hn) := by
      refine ⟨⟨by simp [hWRl.len, hok.len], fun k k' b hk hk' => ?_, fun k b hk => ?_, (wb_at hWRl hbw hok Hn (by simp)).blk⟩, hok.fin, Frm.below hbw, fun b hb => ⟨fun ha => ?_, fun ha => .inl ha⟩, fun k b hk hb => ?_, fun k hk _ => by rw [List.getElem?_append_left hk], by simp⟩
      · rcases hnew k b hk with ⟨h1, h2⟩ | ⟨h1, h2⟩ <;> rcases hnew k' b hk' with ⟨h3, h4⟩ | ⟨h3, h4⟩
        · exact hWRl.inj k k' b h2 h4
        · have := (hWRl.own k b h2).2
          have := hok.new b (List.mem_of_getElem? h4)
          omega
        · have := (hWRl.own k' b h4).2
          have := hok.new b (List.mem_of_getElem? h2)
          omega
        · have := hok.inj _ _ b h2 h4
          omega
      · have hA : AS A s b := by
          rcases hnew k b hk with ⟨h1, h2⟩ | ⟨h1, h2⟩
          · exact .inl (hWRl.own k b h2).1
          · exact .inr (List.mem_of_getElem? h2)
        exact ⟨hA, hok.fin b hA⟩
      · rcases ha with ha | ha
        · exact ha
        · have := hok.new b ha; omega
      · rcases hnew k b hk with ⟨h1, h2⟩ | ⟨h1, h2⟩
        · exact List.mem_of_getElem? h2
        · have := hok.new b (List.mem_of_getElem? h2); omega
    have henv : EnvRel s.1 (AS A s) (β ++ s.2) e' a'.tmps := fun t => by
      by_cases ht : t < N
      · exact r1 t _ s (hcat t ht)
      · have hu : a'.tmps.getD t undef = undef := by
          have : ¬ t < a'.tmps.size := by omega
          simp [Array.getD, this]
        refine r1 t _ s ?_
        rcases cat_cases (ops := l.toArray) G (fun t => RF A β (look e t)) n t with ⟨j, oj, hj, hoj, hdj, _, _⟩ | ⟨_, hc⟩
        · exact absurd ((dst_spec hdst hj hoj).1 t hdj) ht
        · rw [hc, hu]
          have h0 := hC0 t
          have hu0 : a.tmps.getD t undef = undef := by
            have : ¬ t < a.tmps.size := by rw [hS.size]; omega
            simp [Array.getD, this]
          rw [hu0] at h0
          exact rep_step hR h0
    have hSta : Sta w0 A0 β0 M ks N y Y g e' (H ++ Hn) a' s.1 (AS A s) (β ++ s.2) := ⟨hS.cur.trans hcur, henv, hsz, by rw [hds]; exact hS.marks.step hcur, fun h => by rw [hds]; exact hS.nodef h, hY.stab _ _ _ _ _ _ _ _ _ _ hS.inv hcur⟩
    exact rvc_sound (r := none) hY (l.drop n) (is.drop n) (hdrop n) _ _ g K _ _ _ _ hK hSta fun e2 H2 g2 a2 w2 A2 β2 hk hst => hQ e2 H2 g2 a2 w2 A2 β2 hk hst

end
end Go.Proofs.Ytefciekodhpefaa
