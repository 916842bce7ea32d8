/- The reader: what it needs, the next bytes. The reader: a number of eight bytes. -/
import Derived.Test.YticahmkeanbjfaaH1
import Derived.Laws.Pointers
import Derived.Tactics
import Derived.Tactics2
import Derived.Defers
import Derived.Recover
import Derived.WideLaws
import Derived.WalkKit
namespace Go.Proofs.Yticahmkeanbjfaa
section
open Go.RowKit
attribute [local irreducible] FS FO IT HS

/-- The operations of a code, in the order of its text; the k-th of a function. -/
def opsOf : Code → List Oper
  | .region _ ops _ => ops.toList
  | .seq a b => opsOf a ++ opsOf b
  | .cond _ a b => opsOf a ++ opsOf b
  | .block _ a => opsOf a
  | .loop a => opsOf a
  | .scope a => opsOf a
  | .rangeFunc _ _ a b => opsOf a ++ opsOf b
  | _ => []
def opAt (f : Func) (k : Nat) : Oper := match f.body with
  | some c => match (opsOf c)[k]? with
    | some o => o
    | none => ⟨none, .panic (.tmp 0), 0, "", #[], none⟩
  | none => ⟨none, .panic (.tmp 0), 0, "", #[], none⟩

/-- A pointer that leads somewhere is not nil. -/
theorem nil_ok {P : Program} {o : Oper} {e : Env} {t yt : TypeId} {x : Operand} (ho : o.op = .binOp .eql t x (.const (.pointer none)) yt) (hu : P.underlying t = some (.pointer (P.pointee t))) (hv : (∃ k wd i j, ev e (cOpd x) = .ptr k wd i j) ∨ ∃ cs j, ev e (cOpd x) = .box cs j) : OthOk P o e (.bool false) := by
  intro w A β a hr
  have hx : Rep w A β (ev e (cOpd x)) (a.eval x) := ev_rep x fun t ht => hr t (by subst ht; simp [ho, Op.operands])
  have run : ∀ p, a.eval x = .pointer (some p) → (execOp a.eval o).run P w = .ok (.value (.bool false)) w := by
    intro p hp
    have hg : (eqGuard .eql t x (.const (.pointer none)) (.pointer (some p)) (.pointer none)).run P w = .ok () w := by unfold eqGuard; simp
    have he := run_eql_pointer_nil (P := P) w t (some p) hu
    have hy : a.eval (.const (.pointer none)) = .pointer none := rfl
    simp only [execOp, ho, hp, hy, Sem.run_bind, hg, Result.andThen_ok, he, Sem.run_pure, Option.isNone_some]
  rcases hv with ⟨k, wd, i, j, hv⟩ | ⟨cs, j, hv⟩
  · rw [hv] at hx
    generalize hav : a.eval x = v at hx
    cases hx with
    | ptr => exact ⟨_, run _ hav, .bool _ _⟩
  · rw [hv] at hx
    generalize hav : a.eval x = v at hx
    cases hx with
    | box => exact ⟨_, run _ hav, .bool _ _⟩

/-- What the reader's owner has: bytes read into, the reader, words read so far. -/
def rdH (l : List Nat) (at' : Int) (g : List Nat) : List Blk := [.dead, .arr 1 (bs l), .vars [.osl 1 1 0 l.length, .int .i64 at', .int .i64 0, .int .i64 0], .arr 1 (uw g)]

noncomputable def ir_octet_Reader_need : IR :=
(.seq (.seq (.reg (⟨(some 4), .mv (.t 0), none⟩ ::⟨(some 5), .oth (opAt Try.f24 1), none⟩ ::⟨(some 6), .mv (.t 5), none⟩ ::⟨(some 7), .mv (.t 0), some (6, false)⟩ ::⟨(some 8), .ck (.t 7), some (6, false)⟩ ::⟨(some 9), .fa 2 (.t 8), some (6, false)⟩ ::⟨(some 10), .fa 0 (.t 9), some (6, false)⟩ ::⟨(some 11), .ld 1 false (.t 10), some (6, false)⟩ ::⟨(some 12), .bin .neq (.t 11) (.c (.int .i64 0)), some (6, false)⟩ ::⟨(some 13), .pick (.t 6) (.c (.bool true)) (.t 12), none⟩ :: [])) (.cond (.t 13) (.reg (⟨(some 14), .call (.c (.fn 26 [])) [(.c (.int .i64 10)), (.c (.int .i64 0))], none⟩ :: [])) .skip)) (.seq (.seq (.reg (⟨(some 15), .mv (.t 1), none⟩ ::⟨(some 16), .bin .lss (.t 15) (.c (.int .i64 0)), none⟩ :: [])) (.cond (.t 16) (.reg (⟨(some 17), .mv (.t 0), none⟩ ::⟨(some 18), .ck (.t 17), none⟩ ::⟨(some 19), .fa 1 (.t 18), none⟩ ::⟨(some 20), .ld 1 false (.t 19), none⟩ ::⟨(some 21), .call (.c (.fn 26 [])) [(.c (.int .i64 3)), (.t 20)], none⟩ :: [])) .skip)) (.seq (.draw (⟨(some 22), .mv (.t 1), none⟩ ::⟨(some 23), .mv (.t 0), none⟩ ::⟨(some 24), .ck (.t 23), none⟩ ::⟨(some 25), .fa 0 (.t 24), none⟩ ::⟨(some 26), .ld 1 false (.t 25), none⟩ ::⟨(some 27), .ln (.t 26), none⟩ ::⟨(some 28), .mv (.t 0), none⟩ ::⟨(some 29), .ck (.t 28), none⟩ ::⟨(some 30), .fa 1 (.t 29), none⟩ ::⟨(some 31), .ld 1 false (.t 30), none⟩ ::⟨(some 32), .bin .sub (.t 27) (.t 31), none⟩ :: []) (⟨(some 33), .bin .gtr (.t 22) (.t 32), none⟩ :: [])) (.cond (.t 33) (.reg (⟨(some 34), .mv (.t 0), none⟩ ::⟨(some 35), .ck (.t 34), none⟩ ::⟨(some 36), .fa 0 (.t 35), none⟩ ::⟨(some 37), .ld 1 false (.t 36), none⟩ ::⟨(some 38), .ln (.t 37), none⟩ ::⟨(some 39), .call (.c (.fn 26 [])) [(.c (.int .i64 2)), (.t 38)], none⟩ :: [])) .skip))))
theorem cd_octet_Reader_need : Code1 Try.prog 24 40 ir_octet_Reader_need [] := ⟨Try.call24, _, _, Try.func24, rfl, by kernel_rfl, by kernel_rfl, by kernel_rfl, by kernel_rfl⟩

theorem hs_need (l g : List Nat) (a : Int) (h0 : 0 ≤ a) (ha : a + 8 ≤ l.length) (hl : l.length ≤ 1000000) : HS Try.prog 24 [.ptr 2 0 0 0, .int .i64 8] (rdH l a g) (.tup []) (rdH l a g) [] := by
  refine hs_of_cvc mixed cd_octet_Reader_need (by simp) ?_
  have hll := bs_len l
  repeat' (conv => whnf); first
    | ((refine ⟨.bool false, nil_ok rfl Try.underlying29 (Or.inl ⟨_, _, _, _, rfl⟩), ?_⟩))
    | ((refine And.intro (Or.inl (Nat.zero_le _)) ?_))
    | ((refine And.intro (show _ ≤ _ from Nat.le_of_ble_eq_true rfl) ?_))
    | (refine Br.tt ?_)
    | (refine Br.ff ?_)
    | (refine Br.dec (fun h => ?_) (fun h => ?_)) <;> try (exfalso; omega)
    | (refine Br.neg ?_)
    | (refine Br.mk (fun h => ?_) (fun h => ?_))
    | (refine And.intro rfl ?_)
    | (refine And.intro (by omega) ?_)
    | (refine ⟨_, Or.inl ⟨⟨by omega, by omega⟩, rfl⟩, ?_⟩)
    | (refine And.intro (by simp only [lens_all, tab_len, bs_len]; first | done | omega) ?_)
    | (refine And.intro (Nat.le_refl _) ?_)
    | fail
  exact ⟨trivial, rfl, ⟨rfl, rfl, rfl, rfl, trivial⟩, rfl, trivial⟩

def ir_octet_Reader_next : IR :=
(.seq (.reg (⟨(some 4), .mv (.c (.nils)), none⟩ :: [])) (.seq (.reg (⟨(some 6), .mv (.t 0), none⟩ ::⟨(some 7), .mv (.t 1), none⟩ ::⟨(some 8), .call (.c (.fn 24 [])) [(.t 6), (.t 7)], none⟩ :: [])) (.seq (.draw (⟨(some 9), .mv (.t 0), none⟩ ::⟨(some 10), .ck (.t 9), none⟩ ::⟨(some 11), .fa 0 (.t 10), none⟩ ::⟨(some 12), .ld 1 false (.t 11), none⟩ ::⟨(some 13), .mv (.t 0), none⟩ ::⟨(some 14), .ck (.t 13), none⟩ ::⟨(some 15), .fa 1 (.t 14), none⟩ ::⟨(some 16), .ld 1 false (.t 15), none⟩ ::⟨(some 17), .mv (.t 0), none⟩ ::⟨(some 18), .ck (.t 17), none⟩ ::⟨(some 19), .fa 1 (.t 18), none⟩ ::⟨(some 20), .ld 1 false (.t 19), none⟩ ::⟨(some 21), .mv (.t 1), none⟩ ::⟨(some 22), .bin .add (.t 20) (.t 21), none⟩ :: []) (⟨(some 23), .sl 1 (.t 12) (some (.t 16)) (some (.t 22)) none, none⟩ ::⟨(some 24), .call (.c (.fn 17 [])) [(.t 23)], none⟩ ::⟨(some 5), .mv (.t 24), none⟩ :: [])) (.seq (.reg (⟨(some 25), .mv (.t 0), none⟩ ::⟨(some 26), .ck (.t 25), none⟩ ::⟨(some 27), .fa 1 (.t 26), none⟩ ::⟨(some 28), .ld 1 false (.t 27), none⟩ ::⟨(some 29), .mv (.t 1), none⟩ ::⟨(some 30), .bin .add (.t 28) (.t 29), none⟩ ::⟨(some 31), .ck (.t 25), none⟩ ::⟨(some 32), .fa 1 (.t 31), none⟩ ::⟨none, .st 1 (.t 32) (.t 30), none⟩ :: [])) (.seq (.reg (⟨(some 33), .mv (.t 5), none⟩ ::⟨(some 4), .mv (.t 33), none⟩ :: [])) .ret)))))
theorem cd_octet_Reader_next : Code1 Try.prog 20 34 ir_octet_Reader_next [.t 4] := ⟨Try.call20, _, _, Try.func20, rfl, by kernel_rfl, by kernel_rfl, by kernel_rfl, by kernel_rfl⟩

theorem hs_next (l g : List Nat) (a : Nat) (ha : a + 8 ≤ l.length) (hl : l.length ≤ 1000000) : HS Try.prog 20 [.ptr 2 0 0 0, .int .i64 8] (rdH l a g) (.osl 4 1 0 8) (rdH l ((a + 8 : Nat) : Int) g ++ [.arr 1 (bs ((l.drop a).take 8))]) [] := by
  refine hs_of_cvc mixed cd_octet_Reader_next (by simp) ?_
  have hll := bs_len l
  have c1 := hs_need l g a (by omega) (by omega) hl
  have hml : ((l.drop a).take 8).length = 8 := by simp; omega
  have c2 : FO Try.prog 17 [.slc 1 (List.take (((a : Int) + 8).toNat - (a : Int).toNat) (List.drop (0 + (a : Int).toNat) (bs l)))] (.osl 0 1 0 8) [.arr 1 (bs ((l.drop a).take 8))] := by
    have h := fo_bClone ((l.drop a).take 8) (by omega)
    rw [hml] at h
    have e : List.take (((a : Int) + 8).toNat - (a : Int).toNat) (List.drop (0 + (a : Int).toNat) (bs l)) = bs ((l.drop a).take 8) := by
      rw [show ((a : Int) + 8).toNat - (a : Int).toNat = 8 by omega, show 0 + (a : Int).toNat = a by omega]
      unfold bs
      rw [List.map_take, List.map_drop]
    rw [e]; exact h
  repeat' (conv => whnf); first
    | ((refine Or.inr (Or.inr (Or.inr (Or.inl ⟨_, _, [], c1, by simp, ?_⟩)))))
    | ((refine Or.inr (Or.inr (Or.inr (Or.inr (Or.inl ?_))))))
    | ((refine ⟨_, _, c2, rfl, bs_loose _, ?_⟩))
    | ((refine And.intro (Or.inl (Nat.zero_le _)) ?_))
    | ((refine And.intro (show _ ≤ _ from Nat.le_of_ble_eq_true rfl) ?_))
    | (refine Br.tt ?_)
    | (refine Br.ff ?_)
    | (refine Br.dec (fun h => ?_) (fun h => ?_)) <;> try (exfalso; omega)
    | (refine Br.neg ?_)
    | (refine Br.mk (fun h => ?_) (fun h => ?_))
    | (refine And.intro rfl ?_)
    | (refine And.intro (by omega) ?_)
    | (refine ⟨_, Or.inl ⟨⟨by omega, by omega⟩, rfl⟩, ?_⟩)
    | (refine And.intro (by simp only [lens_all]; first | done | omega) ?_)
    | (refine And.intro (Nat.le_refl _) ?_)
    | fail
  trace_state
  exact ⟨trivial, rfl, ⟨rfl, rfl, rfl, rfl, trivial⟩, rfl, rfl, trivial⟩
end
section
open Go.RowKit
attribute [local irreducible] FS FO IT HS

/-- What was noted of a read that did not give up: nothing. -/
theorem caught_idle (p : Option Addr) (w : World) : CallsD Try.prog 18 #[.pointer p] .returning w fun e u' w' => e = .returned (.tuple #[]) ∧ u' = .returning ∧ w' = w := by
  have hnil : ∀ w, (Op.equal 20 .nilIface .nilIface).run Try.prog w = .ok true w := fun w => run_equal_nil_nil w 20 (by kernel_rfl)
  refine callsD_of_wpS Try.func18 rfl fun c₀ cs hu => ?_
  apply wpS_seq
  apply wpS_region
  simp [wpOpsS, go_sem, recoverD, hu, Try.ntmps18, Exit.thenS]
  apply wpS_seq
  apply wpS_seq
  apply wpS_region
  simp [wpOpsS, go_sem, Exit.thenS, Array.replicate]
  refine wpS_cond (t := true) (by simp [Act.eval]) ?_
  simp only [if_true]
  refine wpS_of_wp (wp_ret ?_)
  cases c₀
  simp_all [bodyPostS, results, Try.results18, Exit.thenS]

theorem cur_cut1 {w0 w : World} {A0 A : Nat → Prop} {β0 β : List (Option Nat)} {M : Nat} {ks : List Nat} {H : List Blk} {blk : Blk} (h : Cur w0 A0 β0 M ks w A β (H ++ [blk])) (hn : β0.length ≤ H.length) (hH : bndH H.length H = true) : Cur w0 A0 β0 M ks w A (β.take H.length) H := by
  have h' : Cur w0 A0 β0 M ks w A β (H ++ List.replicate 1 .dead) := ⟨⟨by rw [h.rel.len]; simp, h.rel.inj, h.rel.own, fun k o b hk hb => by
    by_cases hlt : k < H.length
    · exact h.rel.blk k o b hk (by rw [List.getElem?_append_left hlt] at hb ⊢; exact hb)
    · rw [List.getElem?_append_right (by omega)] at hb
      have : b = .dead := by
        have := List.mem_of_getElem? hb
        simpa using this
      subst this
      cases o <;> trivial⟩, h.fin, h.frm, h.agree, h.fresh, h.same, h.more⟩
  exact (h'.x.trunc hn hH).cur

theorem frz_bs {H : List Blk} {k n : Nat} {l : List Nat} (hk : H[k]? = some (.arr 1 (bs l))) (hn : n = l.length) : frzs (frzK 4 H) [.osl k 1 0 n] fun ys => ys = [YL l] := by
  show match H[k]? with
    | some (.arr wd' xs) => wd' = 1 ∧ 0 + n ≤ xs.length ∧ [SV.slc 1 ((xs.drop 0).take n)] = [YL l]
    | _ => False
  rw [hk]
  refine ⟨rfl, by rw [bs_len]; omega, ?_⟩
  rw [List.drop_zero, hn, ← bs_len, List.take_length]; rfl

set_option maxHeartbeats 1000000 in
theorem hs_I64 (l g : List Nat) (a v : Nat) (ha : a + 8 ≤ l.length) (hl : l.length ≤ 1000000) (hv : v < 18446744073709551616) (hb : (l.drop a).take 8 = byL v) : HS Try.prog 7 [.ptr 2 0 0 0] (rdH l a g) (.int .i64 (IntKind.i64.wrap (v : Int))) (rdH l ((a + 8 : Nat) : Int) g) [] := by
  have cn := hs_next l g a ha hl
  have cm := fs_number v hv
  unfold HS at cn ⊢
  unfold FS at cm
  refine ⟨Try.call7, fun w A β vs hfin hW hr => ?_⟩
  obtain ⟨v0, rfl⟩ : ∃ v0, vs = [v0] := by
    have h := hr.1
    match vs, h with
    | [x], _ => exact ⟨x, rfl⟩
  have r0 := hr.2 0 _ v0 rfl rfl
  have c1 := cn.2 w A β [v0, .int .i64 8] hfin hW ⟨rfl, fun i f u h1 h2 => by
    match i, h1, h2 with
    | 0, h1, h2 => cases h1; cases h2; exact r0
    | 1, h1, h2 => cases h1; cases h2; exact .int _ _ _⟩
  obtain ⟨p, rfl⟩ : ∃ p, v0 = .pointer p := by cases r0; exact ⟨_, rfl⟩
  have hcur0 : Cur w A β 4 [] w A β (rdH l a g) := ⟨hW, hfin, Frm.refl _ _, fun _ _ => Iff.rfl, fun _ b h _ => List.mem_of_getElem? h, fun _ _ _ => rfl, Nat.le_refl _⟩
  go_enter_defers Try.func7, Try.ntmps7
  go_wp2_with (first
    | (go_at_call 20; refine c1.mono ?_; rintro e w1 ⟨u, A1, β1, rfl, hfrm, hfin1, hW1, hag, hfr, hsame, hmore, hrep⟩))
  -- the bytes are frozen for the number's sake
  obtain ⟨ys, rfl, hz⟩ := frzs_reps (frz_bs (H := rdH l ((a + 8 : Nat) : Int) g ++ [.arr 1 (bs ((l.drop a).take 8))]) (k := 4) (n := 8) rfl (by simp; omega)) hW1.wb (vs := [u]) ⟨rfl, fun i f x h1 h2 => by
    cases i with
    | zero => cases h1; cases h2; exact hrep
    | succ i => simp at h1⟩
  rw [hb] at hz
  have c2 := cm.2 w1 _ [u] (fun b h => hfin1 b h.1) rfl hz.2
  refine c2.mono ?_
  rintro e w2 ⟨x, rfl, hbel, hx⟩
  obtain rfl := rep_int hx
  go_wp2
  refine leaves_cons (f := 18) (args := #[.pointer p]) (by simp) (by simp [go_sem, Try.call18]) ?_
  refine (caught_idle p w2).mono ?_
  rintro e u' w'' ⟨rfl, rfl, rfl⟩
  have hcur1 : Cur w A β 4 [] w1 A1 β1 (rdH l ((a + 8 : Nat) : Int) g ++ [.arr 1 (bs ((l.drop a).take 8))]) := ⟨hW1, hfin1, hfrm, hag, hfr, fun k hk hn => hsame k hk (by simp), hmore⟩
  have hcur2 := cur_cut1 (hcur1.below hbel) (by rw [hW.len]; exact Nat.le_refl _) rfl
  show ∃ x, (results _ _).run Try.prog w'' = .ok x w'' ∧ _
  refine ⟨.int .i64 (IntKind.i64.wrap (v : Int)), by simp [results, Try.results7, go_sem], .int .i64 (IntKind.i64.wrap (v : Int)), A1, _, rfl, hcur2.frm, hcur2.fin, hcur2.rel, hcur2.agree, hcur2.fresh, fun k hk _ => hcur2.same k hk fun h => ?_, hcur2.more, .int _ _ _⟩
  rcases h with h | h
  · have : β.length = 4 := hW.len
    omega
  · simp at h
end
end Go.Proofs.Yticahmkeanbjfaa
