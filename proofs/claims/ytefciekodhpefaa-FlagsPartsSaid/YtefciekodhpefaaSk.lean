/- Append, copy, calls; all operations in one. -/
import Derived.Test.YtefciekodhpefaaSj
import Derived.Deep.Upon
namespace Go.Proofs.Ytefciekodhpefaa
open Go.RowKit

section
variable {P : Program} {w0 : World} {A0 : Nat → Prop} {β0 : List (Option Nat)} {M : Nat} {ks : List Nat} {w : World} {A : Nat → Prop} {β : List (Option Nat)} {H : List Blk}
variable {o : Oper} {op : IOp} {e : Env} {K : SV → Env → List Blk → Prop} {a : Act}

/-- The elements of a slice, read: a source for append and copy. -/
theorem elems_ex {wd : Nat} {y : SV} {K' : List (List SV) → Prop} (h : elemsK wd H y K') : ∃ ys, K' ys ∧ ∀ (w : World) (A : Nat → Prop) (β : List (Option Nat)) (v : Value), 0 < wd → WRel w A β H → Rep w A β y v → (∀ x ∈ ys, scalarL x = true) →
    ∃ (ad : Option Addr) (c : Nat) (news : List Value), v = .slice ad ys.length c ∧ news.length = ys.length * wd ∧ Row w A wd ys news ∧ (∀ u ∈ news, u.oneCell' = true) ∧
      ((ad = none ∧ ys = [] ∧ news = []) ∨ (ys = [] ∧ news = []) ∨ ∃ b off, ad = some ⟨b, off, none⟩ ∧ ∀ (j : Nat) (u : Value), news[j]? = some u → w.cell? ⟨b, off + j, none⟩ = some u) := by
  -- elements that lie in cells
  have core : ∀ {w : World} {A : Nat → Prop} {ys : List (List SV)} {b off c : Nat} {cs : Array Value} {T : TypeId} {fr : Nat × Nat}, 0 < wd → w.heap[b]? = some (.cells cs T fr) → (∀ x ∈ ys, scalarL x = true) →
      (∀ (i : Nat) (x : List SV), ys[i]? = some x → x.length = wd ∧ ∀ (j : Nat) (c : SV), x[j]? = some c → ∃ u, cs[off + i * wd + j]? = some u ∧ Rep w A [] c u) →
      ∃ (ad : Option Addr) (c' : Nat) (news : List Value), (Value.slice (some ⟨b, off, none⟩) ys.length c) = .slice ad ys.length c' ∧ news.length = ys.length * wd ∧ Row w A wd ys news ∧ (∀ u ∈ news, u.oneCell' = true) ∧
      ((ad = none ∧ ys = [] ∧ news = []) ∨ (ys = [] ∧ news = []) ∨ ∃ b off, ad = some ⟨b, off, none⟩ ∧ ∀ (j : Nat) (u : Value), news[j]? = some u → w.cell? ⟨b, off + j, none⟩ = some u) := by
    intro w A ys b off c cs T fr hwd hb hsc hcell
    let news := (List.range (ys.length * wd)).map fun q => (cs[off + q]?).getD undef
    have hget : ∀ q, q < ys.length * wd → ∃ x c u, ys[q / wd]? = some x ∧ x[q % wd]? = some c ∧ cs[off + q]? = some u ∧ Rep w A [] c u ∧ news[q]? = some u := by
      intro q hq
      have h1 : q / wd < ys.length := Nat.div_lt_of_lt_mul (by rw [Nat.mul_comm]; exact hq)
      obtain ⟨hl, hc⟩ := hcell (q / wd) ys[q / wd] (by simp [h1])
      have h2 : q % wd < (ys[q / wd]).length := by rw [hl]; exact Nat.mod_lt _ hwd
      obtain ⟨u, h3, h4⟩ := hc (q % wd) (ys[q / wd])[q % wd] (by simp [h2])
      have h5 : off + q / wd * wd + q % wd = off + q := by
        have := Nat.div_add_mod q wd
        rw [Nat.mul_comm] at this; omega
      rw [h5] at h3
      exact ⟨ys[q / wd], (ys[q / wd])[q % wd], u, by simp [h1], by simp [h2], h3, h4, by simp [news, hq, h3]⟩
    refine ⟨_, c, news, rfl, by simp [news], ⟨by simp [news], fun i x hx => ⟨(hcell i x hx).1, fun j c hc => ?_⟩⟩, fun u hu => ?_, .inr (.inr ⟨b, off, rfl, fun j u hj => ?_⟩)⟩
    · obtain ⟨hl, _⟩ := hcell i x hx
      have hj : j < wd := by rw [← hl]; exact (List.getElem?_eq_some_iff.1 hc).1
      have hi : i < ys.length := (List.getElem?_eq_some_iff.1 hx).1
      have hq : i * wd + j < ys.length * wd := by
        have : (i + 1) * wd ≤ ys.length * wd := Nat.mul_le_mul_right _ hi
        rw [Nat.add_mul, Nat.one_mul] at this; omega
      obtain ⟨x', c', u, h1, h2, h3, h4, h5⟩ := hget _ hq
      rw [Nat.mul_comm i wd, Nat.mul_add_div hwd, Nat.div_eq_of_lt hj, Nat.add_zero] at h1
      rw [Nat.mul_comm i wd, Nat.mul_add_mod, Nat.mod_eq_of_lt hj] at h2
      rw [hx] at h1; cases h1
      rw [hc] at h2; cases h2
      exact ⟨u, h5, h4⟩
    · obtain ⟨q, hq, rfl⟩ := List.getElem_of_mem hu
      have hq' : q < ys.length * wd := by simpa [news] using hq
      obtain ⟨x, c, u, h1, h2, h3, h4, h5⟩ := hget q hq'
      have : news[q] = u := by simpa [hq] using h5
      rw [this]
      exact scalar_one h4 (scalarL_mem (hsc x (List.mem_of_getElem? h1)) _ c h2)
    · have hq' : j < ys.length * wd := by
        have := (List.getElem?_eq_some_iff.1 hj).1
        simpa [news] using this
      obtain ⟨x, c, u', h1, h2, h3, h4, h5⟩ := hget j hq'
      rw [hj] at h5; cases h5
      rw [cell_of hb]; exact h3
  unfold elemsK at h
  split at h
  · refine ⟨[], h, fun w A β v _ hW hr _ => ?_⟩
    cases hr
    exact ⟨_, 0, [], rfl, by simp, ⟨by simp, fun i x hx => by simp at hx⟩, (fun u hu => by cases hu), .inr (.inl ⟨rfl, rfl⟩)⟩
  · rename_i wd' ys
    obtain ⟨rfl, h⟩ := h
    refine ⟨ys, h, fun w A β v hwd hW hr hsc => ?_⟩
    cases hr with
    | slcZ => exact ⟨_, 0, [], rfl, by simp, ⟨by simp, fun i x hx => by simp at hx⟩, (fun u hu => by cases hu), .inr (.inl ⟨rfl, rfl⟩)⟩
    | slc _ _ _ b off cap vs hm hcap hcs =>
      obtain ⟨⟨cs, T, fr, hb, hcell⟩, _, hl⟩ := hm
      exact core hwd hb hsc fun i x hx => ⟨hl i x hx, fun j c hc => ⟨_, hcell i x j hx (by rw [← hl i x hx]; exact (List.getElem?_eq_some_iff.1 hc).1), hcs i x j c hx hc⟩⟩
  · rename_i k wd' i n
    split at h
    · rename_i wd'' xs hblk
      obtain ⟨rfl, rfl, hle, h⟩ := h
      refine ⟨_, h, fun w A β v hwd hW hr hsc => ?_⟩
      have hlen : ((xs.drop i).take n).length = n := by simp; omega
      cases hr with
      | oslZ => exact ⟨_, 0, [], by simp; rfl, by simp, ⟨by simp, fun i x hx => by simp at hx⟩, (fun u hu => by cases hu), .inr (.inl ⟨by simp, rfl⟩)⟩
      | osl _ _ _ _ _ b cap hk hcap hsz =>
        obtain ⟨cs, T, hb, hcl, hcs⟩ := hW.blk k (some b) _ hk hblk
        have := core (c := cap) (off := i * wd'') hwd hb hsc fun p x hx => by
          have hp : p < n := by rw [← hlen]; exact (List.getElem?_eq_some_iff.1 hx).1
          rw [List.getElem?_take_of_lt hp, List.getElem?_drop] at hx
          refine ⟨(hcs _ x hx).1, fun j c hc => ?_⟩
          obtain ⟨u, h1, h2⟩ := (hcs _ x hx).2 j c hc
          rw [Nat.add_mul] at h1
          exact ⟨u, by simpa using h1, h2⟩
        rw [hlen] at this ⊢
        exact this
    · exact h.elim
  · exact h.elim

theorem src_of {size : Nat} {tx e' : TypeId} (hk : P.underlying tx = some (.slice e')) {ad : Option Addr} {n c : Nat} {news : List Value} (hl : news.length = n * size) (h1 : ∀ u ∈ news, u.oneCell' = true)
    (hd : (ad = none ∧ n = 0 ∧ news = []) ∨ (n = 0 ∧ news = []) ∨ ∃ b off, ad = some ⟨b, off, none⟩ ∧ ∀ (j : Nat) (u : Value), news[j]? = some u → w.cell? ⟨b, off + j, none⟩ = some u) : Src P size tx (.slice ad n c) n news w := by
  rcases hd with ⟨rfl, rfl, rfl⟩ | ⟨rfl, rfl⟩ | ⟨b, off, rfl, hcell⟩
  · exact Src.ofNil w hk c
  · cases ad with
    | none => exact Src.ofNil w hk c
    | some ad => exact Src.ofSlice w hk ad 0 c [] (by simp) (fun j u h => by simp at h) (fun u hu => by cases hu)
  · exact Src.ofSlice w hk _ n c news hl (fun j u hj => by rw [addr_add]; exact hcell j u hj) h1

theorem row_append {w : World} {A : Nat → Prop} {wd : Nat} {xs ys : List (List SV)} {cs news rest : List Value} (hx : Row w A wd xs cs) (hcl : cs.length = xs.length * wd) (hy : Row w A wd ys news) (hnl : news.length = ys.length * wd) : Row w A wd (xs ++ ys) (cs ++ (news ++ rest)) := by
  refine ⟨by simp only [List.length_append, hcl, hnl, Nat.add_mul]; omega, fun i x hi => ?_⟩
  by_cases hlt : i < xs.length
  · rw [List.getElem?_append_left hlt] at hi
    refine ⟨(hx.2 i x hi).1, fun j c hc => ?_⟩
    obtain ⟨u, h1, h2⟩ := (hx.2 i x hi).2 j c hc
    refine ⟨u, ?_, h2⟩
    rw [List.getElem?_append_left (List.getElem?_eq_some_iff.1 h1).1]; exact h1
  · rw [List.getElem?_append_right (by omega)] at hi
    refine ⟨(hy.2 _ x hi).1, fun j c hc => ?_⟩
    obtain ⟨u, h1, h2⟩ := (hy.2 _ x hi).2 j c hc
    refine ⟨u, ?_, h2⟩
    have he : i * wd + j = xs.length * wd + ((i - xs.length) * wd + j) := by
      rw [Nat.sub_mul]
      have : xs.length * wd ≤ i * wd := Nat.mul_le_mul_right _ (by omega)
      omega
    rw [List.getElem?_append_right (by rw [hcl, he]; omega), hcl, he, Nat.add_sub_cancel_left, List.getElem?_append_left (List.getElem?_eq_some_iff.1 h1).1]; exact h1

theorem row_take {w : World} {A : Nat → Prop} {wd : Nat} {xs : List (List SV)} {cs : List Value} (hx : Row w A wd xs cs) : Row w A wd xs (cs.take (xs.length * wd)) ∧ (cs.take (xs.length * wd)).length = xs.length * wd := by
  have hl : (cs.take (xs.length * wd)).length = xs.length * wd := by rw [List.length_take]; exact Nat.min_eq_left hx.1
  refine ⟨⟨by rw [hl]; exact Nat.le_refl _, fun i x hi => ⟨(hx.2 i x hi).1, fun j c hc => ?_⟩⟩, hl⟩
  obtain ⟨u, h1, h2⟩ := (hx.2 i x hi).2 j c hc
  refine ⟨u, ?_, h2⟩
  have hj : j < wd := by rw [← (hx.2 i x hi).1]; exact (List.getElem?_eq_some_iff.1 hc).1
  have : (i + 1) * wd ≤ xs.length * wd := Nat.mul_le_mul_right _ (List.getElem?_eq_some_iff.1 hi).1
  rw [Nat.add_mul, Nat.one_mul] at this
  rw [List.getElem?_take_of_lt (by omega)]; exact h1

theorem grownCap_ge (w : World) (need old : Nat) (t : TypeId) : need ≤ grownCap w need old t := by
  unfold grownCap
  simp only [Question.cut]
  omega

theorem ap_rel {c : Call} {x y : Operand} (ho : o.op = .call c) (hcl : c.callee = .builtin .append) (hargs : c.args.toList = [x, y]) {el el' : TypeId} (ht : c.argTypes.toList.map P.underlying = [some (.slice el), some (.slice el')]) {i : TypeInfo} (hi : P.info? el = some i) {z : List SV} (hz : zeroOf P el = some z) (hzl : z.length = i.size) (hs0 : 0 < i.size)
    (h : xop P M ks (.ap i.size i.bytes (cOpd x) (cOpd y)) e H K) (hcur : Cur w0 A0 β0 M ks w A β H) (henv : EnvRel w A β e a.tmps) : rel P o a w (Then K w0 A0 β0 M ks a.tmps) := by
  obtain ⟨t, tx, hts, hu, hk⟩ : ∃ t tx, c.argTypes.toList = [t, tx] ∧ P.underlying t = some (.slice el) ∧ P.underlying tx = some (.slice el') := by
    cases h : c.argTypes.toList with
    | nil => simp [h] at ht
    | cons t l => cases l with
      | nil => simp [h] at ht
      | cons t' l => cases l <;> simp [h] at ht; exact ⟨t, t', rfl, ht.1, ht.2⟩
  have hts' : c.argTypes = #[t, tx] := by apply Array.ext'; simpa using hts
  have hargs' : c.args = #[x, y] := by apply Array.ext'; simpa using hargs
  obtain ⟨zv, hzv, hzvz⟩ := run_zero (P := P) hz
  have hzi : i.zero = some zv := by
    unfold zeroOf at hz
    obtain ⟨v', hv', _⟩ := Option.map_eq_some_iff.1 hz
    have hzi : i.zero = some v' := by simpa [hi] using hv'
    have := hzv w
    simp [zeroValue, run_typeInfo hi, hzi] at this
    rw [hzi, this]
  have run : ∀ {w' : World} {v : Value}, (Builtin.append_ #[t, tx] o.type #[a.eval x, a.eval y]).run P w = .ok v w' → (execOp a.eval o).run P w = .ok (.value v) w' := by
    intro w' v h
    simp [execOp, ho, resolve, hcl, hargs', hts', invoke, builtin, h]
  simp only [xop] at h
  obtain ⟨ys, h, hys⟩ := elems_ex h
  have hyr := ev_rep (e := e) (a := a) (w := w) (A := A) (β := β) y fun t _ => henv t
  have hxr := ev_rep (e := e) (a := a) (w := w) (A := A) (β := β) x fun t _ => henv t
  split at h
  · -- onto one's own slice
    rename_i k wd' i0 n hx
    split at h
    · rename_i wd'' xs hblk
      obtain ⟨rfl, rfl, rfl, rfl, hks, hbytes, hlen, hsc, hK⟩ := h
      obtain ⟨ad, cy, news, hyv, hnl, hrow, hone, hsrc⟩ := hys w A β _ hs0 hcur.rel hyr hsc
      have hsrc' : Src P i.size tx (a.eval y) ys.length news w := by
        rw [hyv]
        refine src_of hk hnl hone ?_
        rcases hsrc with ⟨h1, h2, h3⟩ | ⟨h2, h3⟩ | h
        · exact .inl ⟨h1, by simp [h2], h3⟩
        · exact .inr (.inl ⟨by simp [h2], h3⟩)
        · exact .inr (.inr h)
      rw [hx] at hxr
      have hkl : k < β.length := by rw [hcur.rel.len]; exact (List.getElem?_eq_some_iff.1 hblk).1
      -- a new array
      have grow : ∀ (base : Option Addr) (cap : Nat) (olds : List Value), a.eval x = .slice base xs.length cap → cap < xs.length + ys.length → (cap = 0 ∨ xs.length ≤ cap) → Row w A i.size xs olds → olds.length = xs.length * i.size →
          (Builtin.firstCells i.size xs.length (.slice base xs.length cap)).run P w.drew = .ok olds.toArray w.drew → rel P o a w (Then K w0 A0 β0 M ks a.tmps) := by
        intro base cap olds hav hcap hcap0 hro hol hfirst
        have hfit : Builtin.nextslicecap (xs.length + ys.length) cap * i.bytes ≤ 281474976710656 := growslice_fits hcap hbytes
        have hrun := run_append_grow_src (P := P) w t tx o.type el i zv hu hi hzi base xs.length cap olds hfirst (a.eval y) ys.length news hsrc' hcap (by omega) hfit
        rw [← hav] at hrun
        have hb : Below w.heap.size w (w.drew.alloc (.cells ((olds ++ news).toArray ++ Builtin.zeroCells zv.cells (grownCap w (xs.length + ys.length) cap el - (xs.length + ys.length))) el)) := ((Below.refl _ _).drew).alloc (by simp) _
        have hnew := World.alloc_heap_new w.drew (.cells ((olds ++ news).toArray ++ Builtin.zeroCells zv.cells (grownCap w (xs.length + ys.length) cap el - (xs.length + ys.length))) el)
        have hcells : ((olds ++ news).toArray ++ Builtin.zeroCells zv.cells (grownCap w (xs.length + ys.length) cap el - (xs.length + ys.length))) = (olds ++ (news ++ (Builtin.zeroCells zv.cells (grownCap w (xs.length + ys.length) cap el - (xs.length + ys.length))).toList)).toArray := by
          apply Array.ext'; simp
        have hge := grownCap_ge w (xs.length + ys.length) cap el
        have hzs : zv.cells.size = i.size := by rw [← hzl, ← hzvz]; simp
        refine rel_value (run hrun) ⟨_, _, _, plus A w.heap.size, β.set k (some w.heap.size), hK, hcur.move hkl hks hb (Nat.le_refl _) (by simp) ?blk, ?env, ?rep⟩
        case blk =>
          have hrow' := row_append (rest := (Builtin.zeroCells zv.cells (grownCap w (xs.length + ys.length) cap el - (xs.length + ys.length))).toList) hro hol hrow hnl
          have hrow'' := hrow'.mono (Stp.below hb) (plus_lt (Nat.le_refl _))
          exact ⟨_, el, by rw [← hcells]; simpa using hnew, hrow''.1, hrow''.2⟩
        case env =>
          refine henv.kill (Stp.below hb) (plus_lt (Nat.le_refl _)) k fun j c hj hc => ?_
          rw [List.getElem?_set_ne (Ne.symm hj)]; exact hc
        case rep =>
          have := Rep.osl (w := w.drew.alloc (.cells ((olds ++ news).toArray ++ Builtin.zeroCells zv.cells (grownCap w (xs.length + ys.length) cap el - (xs.length + ys.length))) el)) (A := plus A w.heap.size) (β.set k (some w.heap.size)) k i.size 0 (xs.length + ys.length) w.heap.size (grownCap w (xs.length + ys.length) cap el)
            (by rw [List.getElem?_set_self hkl]) hge ⟨_, _, _, by simpa using hnew, by
              simp only [Array.size_append, List.size_toArray, List.length_append, hol, hnl, Builtin.zeroCells, Array.size_map, Array.size_range, hzs, Nat.zero_add]
              rw [← Nat.add_mul, ← Nat.add_mul]
              exact Nat.mul_le_mul_right _ (by omega)⟩
          simpa using this
      generalize hav : a.eval x = v at hxr
      generalize hxl : xs.length = xl at hxr
      cases hxr with
      | oslZ _ _ _ _ ad' =>
        have hxnil : xs = [] := List.length_eq_zero_iff.1 hxl
        subst hxnil
        by_cases hy0 : ys = []
        · -- nothing is appended
          subst hy0
          have hn0 : news = [] := List.length_eq_zero_iff.1 (by simpa using hnl)
          subst hn0
          have hrun := run_append_nothing w t tx o.type el i hu hi ad' 0 0 (Nat.le_refl _) (a.eval y) hsrc'
          rw [← hav] at hrun
          refine rel_value (run hrun) ⟨_, _, _, A, β, hK, ?_, henv.kill (Stp.refl _ _) (fun _ _ h => h) k fun _ _ _ h => h, ?_⟩
          · have hc := hcur.killed k
            have hbk : (killH k H)[k]? = some (.arr i.size []) := by rw [killH_get, hblk]; rfl
            have : (killH k H).set k (.arr i.size []) = killH k H := by
              apply List.ext_getElem?
              intro p
              by_cases hp : k = p
              · subst hp; rw [List.getElem?_set_self (List.getElem?_eq_some_iff.1 hbk).1, hbk]
              · rw [List.getElem?_set_ne hp]
            simp only [List.append_nil]
            rw [this]; exact hc
          · simp only [List.length_nil]
            rw [hav]
            exact .oslZ _ _ _ _ _
        · exact grow ad' 0 [] hav (by simp; have := List.length_pos_iff.2 hy0; omega) (.inl rfl) ⟨by simp, fun i x hx => by simp at hx⟩ (by simp) (by
            cases ad' with
            | none => exact run_firstCells_none w.drew i.size 0 0 0
            | some ad' => exact run_firstCells_some w.drew i.size 0 ad' 0 0 [] (by simp) fun j v h => by simp at h)
      | osl _ _ _ _ _ b cap hkb hcap hsz =>
        subst hxl
        obtain ⟨cs, T, hb, hcl', hcs⟩ := hcur.rel.blk k (some b) _ hkb hblk
        obtain ⟨cs2, T2, fr2, hb2, hsz2⟩ := hsz
        rw [hb] at hb2
        cases hb2
        have hrowx : Row w A i.size xs cs := ⟨hcl', hcs⟩
        simp only [Nat.zero_mul] at hav
        by_cases hroom : xs.length + ys.length ≤ cap
        · -- there is room
          have hcsz : xs.length * i.size + news.length ≤ cs.length := by
            rw [hnl, ← Nat.add_mul]
            refine Nat.le_trans (Nat.mul_le_mul_right _ hroom) ?_
            simpa using hsz2
          have hl : (cs.take (xs.length * i.size) ++ (news ++ cs.drop (xs.length * i.size + news.length))).length = cs.length := by simp; omega
          obtain ⟨hfrm, _⟩ := setRow_frm (cs' := (cs.take (xs.length * i.size) ++ (news ++ cs.drop (xs.length * i.size + news.length)))) hb hl k hkb
          have hstp := hfrm.stp hcur.own
          have hst := run_storeCells_at P b (xs.length * i.size) T news 0 cs.toArray w hb (by simpa using hcsz) hone
          simp only [Nat.add_zero, List.append_assoc] at hst
          have hrun : (Builtin.append_ #[t, tx] o.type #[a.eval x, a.eval y]).run P w = .ok (.slice (some ⟨b, 0, none⟩) (xs.length + ys.length) cap) (w.setRow b (cs.take (xs.length * i.size) ++ (news ++ cs.drop (xs.length * i.size + news.length))).toArray) := by
            rw [hav]
            simp [Builtin.append_, run_underlying hu, run_underlying hk, sizeOf, typeInfo, hi, hsrc'.len, hroom, hsrc'.cells, Addr.add_lit, hst]
          refine rel_value (run hrun) ⟨_, _, _, A, β, hK, (hcur.killed k).set hkb hb hl ?_, henv.kill hstp (fun _ _ h => h) k fun _ _ _ h => h, ?_⟩
          · obtain ⟨htk, htl⟩ := row_take hrowx
            have hnewrow := (row_append (rest := cs.drop (xs.length * i.size + news.length)) htk htl hrow hnl).mono hstp (fun _ _ h => h)
            exact ⟨_, T, setRow_heap w b _ _ _ _ hb, hnewrow.1, hnewrow.2⟩
          · have := Rep.osl (w := w.setRow b (cs.take (xs.length * i.size) ++ (news ++ cs.drop (xs.length * i.size + news.length))).toArray) (A := A) β k i.size 0 (xs.length + ys.length) b cap hkb hroom ⟨_, T, _, setRow_heap w b _ _ _ _ hb, by
              simp only [List.size_toArray]
              rw [hl]; simpa using hsz2⟩
            simpa using this
        · obtain ⟨htk, htl⟩ := row_take hrowx
          refine grow (some ⟨b, 0, none⟩) cap (cs.take (xs.length * i.size)) hav (by omega) (.inr hcap) htk htl (run_firstCells_some w.drew i.size xs.length ⟨b, 0, none⟩ xs.length cap _ htl fun j v hj => ?_)
          have hjl : j < xs.length * i.size := by
            have := (List.getElem?_eq_some_iff.1 hj).1
            rw [htl] at this; exact this
          rw [addr_add, Nat.zero_add]
          have hb' : w.drew.heap[b]? = some (.cells cs.toArray T (0, 0)) := hb
          rw [cell_of hb']
          rw [List.getElem?_take_of_lt hjl] at hj
          simpa using hj
    · exact h.elim
  · -- onto nil
    rename_i hx
    obtain ⟨hbytes, hlen, hsc, hK⟩ := h
    obtain ⟨ad, cy, news, hyv, hnl, hrow, hone, hsrc⟩ := hys w A β _ hs0 hcur.rel hyr hsc
    have hsrc' : Src P i.size tx (a.eval y) ys.length news w := by
      rw [hyv]
      refine src_of hk hnl hone ?_
      rcases hsrc with ⟨h1, h2, h3⟩ | ⟨h2, h3⟩ | h
      · exact .inl ⟨h1, by simp [h2], h3⟩
      · exact .inr (.inl ⟨by simp [h2], h3⟩)
      · exact .inr (.inr h)
    rw [hx] at hxr
    generalize hav : a.eval x = v at hxr
    cases hxr
    rename_i ad'
    by_cases hy0 : ys = []
    · subst hy0
      have hn0 : news = [] := List.length_eq_zero_iff.1 (by simpa using hnl)
      subst hn0
      have hrun := run_append_nothing w t tx o.type el i hu hi ad' 0 0 (Nat.le_refl _) (a.eval y) hsrc'
      rw [← hav] at hrun
      refine rel_value (run hrun) ⟨_, _, _, A, β ++ [none], hK, hcur.nil, henv.mono (Stp.refl _ _) (fun _ _ h => h) append_get, ?_⟩
      rw [hav]
      exact .oslZ _ _ _ _ _
    · have hpos := List.length_pos_iff.2 hy0
      have hfit : Builtin.nextslicecap (0 + ys.length) 0 * i.bytes ≤ 281474976710656 := growslice_fits (by omega) (by simpa using hbytes)
      have hfirst : (Builtin.firstCells i.size 0 (.slice ad' 0 0)).run P w.drew = .ok ([] : List Value).toArray w.drew := by
        cases ad' with
        | none => exact run_firstCells_none w.drew i.size 0 0 0
        | some ad' => exact run_firstCells_some w.drew i.size 0 ad' 0 0 [] (by simp) fun j v h => by simp at h
      have hrun := run_append_grow_src (P := P) w t tx o.type el i zv hu hi hzi ad' 0 0 [] hfirst (a.eval y) ys.length news hsrc' (by omega) (by omega) hfit
      rw [← hav, Nat.zero_add] at hrun
      have hge := grownCap_ge w ys.length 0 el
      have hzs : zv.cells.size = i.size := by rw [← hzl, ← hzvz]; simp
      have hb : Below w.heap.size w (w.drew.alloc (.cells (([] ++ news).toArray ++ Builtin.zeroCells zv.cells (grownCap w ys.length 0 el - ys.length)) el)) := ((Below.refl _ _).drew).alloc (by simp) _
      have hnew := World.alloc_heap_new w.drew (.cells (([] ++ news).toArray ++ Builtin.zeroCells zv.cells (grownCap w ys.length 0 el - ys.length)) el)
      have hcells : (([] ++ news).toArray ++ Builtin.zeroCells zv.cells (grownCap w ys.length 0 el - ys.length)) = ([] ++ (news ++ (Builtin.zeroCells zv.cells (grownCap w ys.length 0 el - ys.length)).toList)).toArray := by
        apply Array.ext'; simp
      refine rel_value (run hrun) ⟨_, _, _, plus A w.heap.size, β ++ [some w.heap.size], hK, hcur.push hb (Nat.le_refl _) (by simp) ?blk, henv.mono (Stp.below hb) (plus_lt (Nat.le_refl _)) append_get, ?rep⟩
      case blk =>
        have hrow' := row_append (w := w) (A := A) (xs := []) (cs := []) (rest := (Builtin.zeroCells zv.cells (grownCap w ys.length 0 el - ys.length)).toList) ⟨by simp, fun i x hx => by simp at hx⟩ (by simp) hrow hnl
        have hrow'' := hrow'.mono (Stp.below hb) (plus_lt (Nat.le_refl _))
        rw [List.nil_append] at hrow''
        exact ⟨_, el, by rw [← hcells]; simpa using hnew, hrow''.1, hrow''.2⟩
      case rep =>
        have := Rep.osl (w := w.drew.alloc (.cells (([] ++ news).toArray ++ Builtin.zeroCells zv.cells (grownCap w ys.length 0 el - ys.length)) el)) (A := plus A w.heap.size) (β ++ [some w.heap.size]) H.length i.size 0 ys.length w.heap.size (grownCap w ys.length 0 el)
          (by rw [List.getElem?_append_right (by rw [hcur.rel.len]; exact Nat.le_refl _), hcur.rel.len]; simp) hge ⟨_, _, _, by simpa using hnew, by
            simp only [Array.size_append, List.size_toArray, List.nil_append, hnl, Builtin.zeroCells, Array.size_map, Array.size_range, hzs, Nat.zero_add]
            rw [← Nat.add_mul]
            exact Nat.mul_le_mul_right _ (by omega)⟩
        simpa using this
  · exact h.elim

end
end Go.Proofs.Ytefciekodhpefaa
