/- Two sparse vectors: the program's functions. Two sparse vectors, place by place: in plain words. -/
import Derived.Test.YtckbagpdahhiiaaV2
namespace Go.Proofs.Ytckbagpdahhiiaa
section
open Go.RowKit
attribute [local irreducible] FS FO IT HS

/-- The value of one of them. -/
def Pr.val (p : Pr) : Int := if p.ok = true then p.x else p.y
/-- A sum as a value, or an error. -/
def nrw (w : Int) : Int × Bool × Int := (if fits w = true then nar w else 0, fits w, if fits w = true then 0 else 12)
def unC (r : Int) (p : Pr) : Int × Bool × Int := if p.ok = true ∧ p.is = true then nrw (rAdd r p.x p.y) else (p.val, true, 0)
def meC (r : Int) (p : Pr) : Int × Bool × Int := if p.ok = true ∧ p.is = true then nrw (rMul r p.x p.y) else (0, false, 0)
def ovC (p : Pr) : Int × Bool × Int := (p.val, true, 0)
def beC (p : Pr) : Int × Bool × Int := (p.x, p.ok && (!p.is || decide (p.x < p.y)), 0)
def trS (t : Int × Bool × Int) : SV := .tup [.int .i64 t.1, .bool t.2.1, .int .i64 t.2.2]

def ir_blend_pair_value : IR :=
(.seq
 (.reg (⟨(some 1), .bx (.t 0), none⟩ ::
   ⟨(some 2), .mv (.c (.int .i64 0)), none⟩ ::
   []))
 (.seq
  (.seq
   (.reg (⟨(some 3), .fa 2 (.t 1), none⟩ ::
     ⟨(some 4), .ld 1 false (.t 3), none⟩ ::
     []))
   (.cond (.t 4)
    (.seq
     (.reg (⟨(some 5), .fa 0 (.t 1), none⟩ ::
       ⟨(some 6), .ld 1 false (.t 5), none⟩ ::
       ⟨(some 2), .mv (.t 6), none⟩ ::
       []))
     .ret)
    .skip))
  (.seq
   (.reg (⟨(some 7), .fa 1 (.t 1), none⟩ ::
     ⟨(some 8), .ld 1 false (.t 7), none⟩ ::
     ⟨(some 2), .mv (.t 8), none⟩ ::
     []))
   .ret)))
theorem cd_blend_pair_value : Code1 Try.prog 61 9 ir_blend_pair_value [.t 2] := ⟨Try.call61, _, _, Try.func61, rfl, by kernel_rfl, by kernel_rfl, by kernel_rfl, by kernel_rfl⟩

theorem fs_value (p : Pr) : FS Try.prog 61 [prS p] (.int .i64 p.val) := by
  obtain ⟨x, y, ok, is⟩ := p
  refine fs_of_cvc mixed cd_blend_pair_value (by simp) ?_
  cases ok
  all_goals repeat' (conv => whnf); first
    | ((refine Br.beq (by rfl) ?_))
    | ((refine Br.bne (by rfl) ?_))
    | (refine Br.tt ?_)
    | (refine Br.ff ?_)
    | (refine Br.dec (fun h => ?_) (fun h => ?_)) <;> try (exfalso; omega)
    | (refine Br.neg ?_)
    | (refine Br.mk (fun h => ?_) (fun h => ?_))
    | (refine And.intro rfl ?_)
    | (refine And.intro (by omega) ?_)
    | (refine ⟨_, Or.inl ⟨⟨by omega, by omega⟩, rfl⟩, ?_⟩)
    | (refine And.intro (by simp only [lens_all, its_len]; first | done | omega) ?_)
    | (refine And.intro (Nat.le_refl _) ?_)
    | fail
  all_goals exact rfl

def ir_blend_narrow : IR :=
(.seq
 (.reg (⟨(some 3), .bx (.t 1), none⟩ ::
   ⟨(some 4), .mv (.c (.int .i64 0)), none⟩ ::
   ⟨(some 5), .mv (.c (.bool false)), none⟩ ::
   ⟨(some 6), .mv (.c (.int .i64 0)), none⟩ ::
   []))
 (.seq
  (.reg (⟨(some 10), .mv (.t 0), none⟩ ::
    ⟨(some 11), .ld 2 true (.t 3), none⟩ ::
    ⟨(some 12), .call (.c (.fn 81 [])) [(.t 10), (.t 11)], none⟩ ::
    ⟨(some 9), .mv (.t 12), none⟩ ::
    ⟨(some 13), .ex 0 (.t 9), none⟩ ::
    ⟨(some 14), .ex 1 (.t 9), none⟩ ::
    ⟨(some 7), .mv (.t 13), none⟩ ::
    ⟨(some 8), .mv (.t 14), none⟩ ::
    []))
  (.seq
   (.seq
    (.reg (⟨(some 15), .mv (.t 8), none⟩ ::
      ⟨(some 16), .un .not (.t 15), none⟩ ::
      []))
    (.cond (.t 16)
     (.seq
      (.reg (⟨(some 4), .mv (.c (.int .i64 0)), none⟩ ::
        ⟨(some 5), .mv (.c (.bool false)), none⟩ ::
        ⟨(some 6), .mv (.c (.int .i64 12)), none⟩ ::
        []))
      .ret)
     .skip))
   (.seq
    (.reg (⟨(some 17), .mv (.t 7), none⟩ ::
      ⟨(some 4), .mv (.t 17), none⟩ ::
      ⟨(some 5), .mv (.c (.bool true)), none⟩ ::
      ⟨(some 6), .mv (.c (.int .i64 0)), none⟩ ::
      []))
    .ret))))
theorem cd_blend_narrow : Code1 Try.prog 58 18 ir_blend_narrow [.t 4, .t 5, .t 6] := ⟨Try.call58, _, _, Try.func58, rfl, by kernel_rfl, by kernel_rfl, by kernel_rfl, by kernel_rfl⟩

theorem fs_narrow (r w : Int) (hw : W128 w) : FS Try.prog 58 [.int .i64 r, WN w] (trS (nrw w)) := by
  have c := fs_rNarrow r w hw
  refine fs_of_cvc mixed cd_blend_narrow (by simp) ?_
  obtain ⟨b, hb⟩ : ∃ b, fits w = b := ⟨_, rfl⟩
  unfold nrw
  rw [hb] at c ⊢
  cases b
  all_goals repeat' (conv => whnf); first
    | ((refine Or.inl ⟨by rfl, _, c, ?_⟩))
    | ((refine Br.beq (by rfl) ?_))
    | ((refine Br.bne (by rfl) ?_))
    | (refine Br.tt ?_)
    | (refine Br.ff ?_)
    | (refine Br.dec (fun h => ?_) (fun h => ?_)) <;> try (exfalso; omega)
    | (refine Br.neg ?_)
    | (refine Br.mk (fun h => ?_) (fun h => ?_))
    | (refine And.intro rfl ?_)
    | (refine And.intro (by omega) ?_)
    | (refine ⟨_, Or.inl ⟨⟨by omega, by omega⟩, rfl⟩, ?_⟩)
    | (refine And.intro (by simp only [lens_all]; first | done | omega) ?_)
    | (refine And.intro (Nat.le_refl _) ?_)
    | fail
  all_goals exact rfl

theorem mg_mem : ∀ (n : Nat) (a b : List (Int × Int)) (q : Int × Pr), q ∈ mgF n a b → (q.2.ok = true → (q.1, q.2.x) ∈ a) ∧ (q.2.is = true → (q.1, q.2.y) ∈ b) ∧ (q.2.ok = false → q.2.x = 0) ∧ (q.2.is = false → q.2.y = 0) ∧ (q.2.ok = true ∨ q.2.is = true)
  | 0, _, _, _, h => by simp [mgF] at h
  | _ + 1, [], [], _, h => by simp [mgF] at h
  | n + 1, x :: xs, [], q, h => by
    simp only [mgF, List.mem_cons] at h
    rcases h with rfl | h
    · simp
    · obtain ⟨h1, h2, h3⟩ := mg_mem n xs [] q h
      exact ⟨fun e => by simp [h1 e], h2, h3⟩
  | n + 1, [], y :: ys, q, h => by
    simp only [mgF, List.mem_cons] at h
    rcases h with rfl | h
    · simp
    · obtain ⟨h1, h2, h3⟩ := mg_mem n [] ys q h
      exact ⟨h1, fun e => by simp [h2 e], h3⟩
  | n + 1, x :: xs, y :: ys, q, h => by
    simp only [mgF] at h
    split at h
    · simp only [List.mem_cons] at h
      rcases h with rfl | h
      · simp
      · obtain ⟨h1, h2, h3⟩ := mg_mem n xs (y :: ys) q h
        exact ⟨fun e => by simp [h1 e], h2, h3⟩
    · split at h
      · simp only [List.mem_cons] at h
        rcases h with rfl | h
        · simp
        · obtain ⟨h1, h2, h3⟩ := mg_mem n (x :: xs) ys q h
          exact ⟨h1, fun e => by simp [h2 e], h3⟩
      · simp only [List.mem_cons] at h
        rcases h with rfl | h
        · have : x.1 = y.1 := by omega
          refine ⟨fun _ => List.mem_cons_self, fun _ => ?_, by simp, by simp, by simp⟩
          show (x.1, y.2) ∈ y :: ys
          rw [this]; exact List.mem_cons_self
        · obtain ⟨h1, h2, h3⟩ := mg_mem n xs ys q h
          exact ⟨fun e => by simp [h1 e], fun e => by simp [h2 e], h3⟩
theorem I0 : I64 0 := by unfold I64; omega
theorem mg_I {a b : List (Int × Int)} (ha : Ib a) (hb : Ib b) {q : Int × Pr} (h : q ∈ mg a b) : I64 q.2.x ∧ I64 q.2.y := by
  obtain ⟨h1, h2, h3, h4, _⟩ := mg_mem _ _ _ _ h
  constructor
  · cases e : q.2.ok with
    | true => exact (ha _ (h1 e)).2
    | false => rw [h3 e]; exact I0
  · cases e : q.2.is with
    | true => exact (hb _ (h2 e)).2
    | false => rw [h4 e]; exact I0

def ir_blend_Union_1 : IR :=
(.seq
 (.reg (⟨(some 2), .bx (.t 0), none⟩ ::
   ⟨(some 3), .mv (.c (.int .i64 0)), none⟩ ::
   ⟨(some 4), .mv (.c (.bool false)), none⟩ ::
   ⟨(some 5), .mv (.c (.int .i64 0)), none⟩ ::
   []))
 (.seq
  (.seq
   (.reg (⟨(some 6), .fa 2 (.t 2), none⟩ ::
     ⟨(some 7), .ld 1 false (.t 6), none⟩ ::
     ⟨(some 8), .mv (.t 7), none⟩ ::
     ⟨(some 9), .fa 3 (.t 2), some (8, true)⟩ ::
     ⟨(some 10), .ld 1 false (.t 9), some (8, true)⟩ ::
     ⟨(some 11), .pick (.t 8) (.t 10) (.c (.bool false)), none⟩ ::
     []))
   (.cond (.t 11)
    (.seq
     (.draw (⟨(some 12), .ld 1 false (.t 1), none⟩ ::
       ⟨(some 13), .ld 1 false (.t 1), none⟩ ::
       ⟨(some 14), .fa 0 (.t 2), none⟩ ::
       ⟨(some 15), .ld 1 false (.t 14), none⟩ ::
       ⟨(some 16), .call (.c (.fn 60 [])) [(.t 15)], none⟩ ::
       ⟨(some 17), .fa 1 (.t 2), none⟩ ::
       ⟨(some 18), .ld 1 false (.t 17), none⟩ ::
       ⟨(some 19), .call (.c (.fn 60 [])) [(.t 18)], none⟩ ::
       ⟨(some 20), .call (.c (.fn 59 [])) [(.t 13), (.t 16), (.t 19)], none⟩ ::
       ⟨(some 21), .call (.c (.fn 58 [])) [(.t 12), (.t 20)], none⟩ ::
       ⟨(some 22), .ex 0 (.t 21), none⟩ ::
       ⟨(some 23), .ex 1 (.t 21), none⟩ ::
       ⟨(some 24), .ex 2 (.t 21), none⟩ ::
       [])
      (⟨(some 3), .mv (.t 22), none⟩ ::
       ⟨(some 4), .mv (.t 23), none⟩ ::
       ⟨(some 5), .mv (.t 24), none⟩ ::
       []))
     .ret)
    .skip))
  (.seq
   (.reg (⟨(some 25), .ld 4 true (.t 2), none⟩ ::
     ⟨(some 26), .call (.c (.fn 61 [])) [(.t 25)], none⟩ ::
     ⟨(some 3), .mv (.t 26), none⟩ ::
     ⟨(some 4), .mv (.c (.bool true)), none⟩ ::
     ⟨(some 5), .mv (.c (.int .i64 0)), none⟩ ::
     []))
   .ret)))
theorem cd_blend_Union_1 : Code1 Try.prog 57 27 ir_blend_Union_1 [.t 3, .t 4, .t 5] := ⟨Try.call57, _, _, Try.func57, rfl, by kernel_rfl, by kernel_rfl, by kernel_rfl, by kernel_rfl⟩

theorem fs_Un1 (r : Int) (p : Pr) (hx : I64 p.x) (hy : I64 p.y) : FS Try.prog 57 [prS p, .box [.int .i64 r] 0] (trS (unC r p)) := by
  have cv := fs_value p
  obtain ⟨x, y, ok, is⟩ := p
  have c1 := fs_wOf x hx
  have c2 := fs_wOf y hy
  have c3 := fs_rAdd r x y (W64i hx) (W64i hy)
  have c4 := fs_narrow r (rAdd r x y) (rAdd_w (W64i hx) (W64i hy))
  refine fs_of_cvc mixed cd_blend_Union_1 (by simp) ?_
  cases ok <;> cases is
  all_goals repeat' (conv => whnf); first
    | ((refine Or.inl ⟨by rfl, _, c1, ?_⟩))
    | ((refine Or.inl ⟨by rfl, _, c2, ?_⟩))
    | ((refine Or.inl ⟨by rfl, _, c3, ?_⟩))
    | ((refine Or.inl ⟨by rfl, _, c4, ?_⟩))
    | ((refine Or.inl ⟨by rfl, _, cv, ?_⟩))
    | ((refine Br.beq (by rfl) ?_))
    | ((refine Br.bne (by rfl) ?_))
    | (refine Br.tt ?_)
    | (refine Br.ff ?_)
    | (refine Br.dec (fun h => ?_) (fun h => ?_)) <;> try (exfalso; omega)
    | (refine Br.neg ?_)
    | (refine Br.mk (fun h => ?_) (fun h => ?_))
    | (refine And.intro rfl ?_)
    | (refine And.intro (by omega) ?_)
    | (refine ⟨_, Or.inl ⟨⟨by omega, by omega⟩, rfl⟩, ?_⟩)
    | (refine And.intro (by simp only [lens_all]; first | done | omega) ?_)
    | (refine And.intro (Nat.le_refl _) ?_)
    | fail
  all_goals exact rfl

def ir_blend_Meet_1 : IR :=
(.seq
 (.reg (⟨(some 2), .bx (.t 0), none⟩ ::
   ⟨(some 3), .mv (.c (.int .i64 0)), none⟩ ::
   ⟨(some 4), .mv (.c (.bool false)), none⟩ ::
   ⟨(some 5), .mv (.c (.int .i64 0)), none⟩ ::
   []))
 (.seq
  (.seq
   (.reg (⟨(some 6), .fa 2 (.t 2), none⟩ ::
     ⟨(some 7), .ld 1 false (.t 6), none⟩ ::
     ⟨(some 8), .mv (.t 7), none⟩ ::
     ⟨(some 9), .fa 3 (.t 2), some (8, true)⟩ ::
     ⟨(some 10), .ld 1 false (.t 9), some (8, true)⟩ ::
     ⟨(some 11), .pick (.t 8) (.t 10) (.c (.bool false)), none⟩ ::
     []))
   (.cond (.t 11)
    (.seq
     (.draw (⟨(some 12), .ld 1 false (.t 1), none⟩ ::
       ⟨(some 13), .ld 1 false (.t 1), none⟩ ::
       ⟨(some 14), .fa 0 (.t 2), none⟩ ::
       ⟨(some 15), .ld 1 false (.t 14), none⟩ ::
       ⟨(some 16), .fa 1 (.t 2), none⟩ ::
       ⟨(some 17), .ld 1 false (.t 16), none⟩ ::
       ⟨(some 18), .call (.c (.fn 65 [])) [(.t 13), (.t 15), (.t 17)], none⟩ ::
       ⟨(some 19), .call (.c (.fn 58 [])) [(.t 12), (.t 18)], none⟩ ::
       ⟨(some 20), .ex 0 (.t 19), none⟩ ::
       ⟨(some 21), .ex 1 (.t 19), none⟩ ::
       ⟨(some 22), .ex 2 (.t 19), none⟩ ::
       [])
      (⟨(some 3), .mv (.t 20), none⟩ ::
       ⟨(some 4), .mv (.t 21), none⟩ ::
       ⟨(some 5), .mv (.t 22), none⟩ ::
       []))
     .ret)
    .skip))
  (.seq
   (.reg (⟨(some 3), .mv (.c (.int .i64 0)), none⟩ ::
     ⟨(some 4), .mv (.c (.bool false)), none⟩ ::
     ⟨(some 5), .mv (.c (.int .i64 0)), none⟩ ::
     []))
   .ret)))
theorem cd_blend_Meet_1 : Code1 Try.prog 64 23 ir_blend_Meet_1 [.t 3, .t 4, .t 5] := ⟨Try.call64, _, _, Try.func64, rfl, by kernel_rfl, by kernel_rfl, by kernel_rfl, by kernel_rfl⟩

theorem fs_Me1 (r : Int) (p : Pr) (hx : I64 p.x) (hy : I64 p.y) : FS Try.prog 64 [prS p, .box [.int .i64 r] 0] (trS (meC r p)) := by
  obtain ⟨x, y, ok, is⟩ := p
  have c3 := fs_rMul r x y hx hy
  have c4 := fs_narrow r (rMul r x y) (rMul_w hx hy)
  refine fs_of_cvc mixed cd_blend_Meet_1 (by simp) ?_
  cases ok <;> cases is
  all_goals repeat' (conv => whnf); first
    | ((refine Or.inl ⟨by rfl, _, c3, ?_⟩))
    | ((refine Or.inl ⟨by rfl, _, c4, ?_⟩))
    | ((refine Br.beq (by rfl) ?_))
    | ((refine Br.bne (by rfl) ?_))
    | (refine Br.tt ?_)
    | (refine Br.ff ?_)
    | (refine Br.dec (fun h => ?_) (fun h => ?_)) <;> try (exfalso; omega)
    | (refine Br.neg ?_)
    | (refine Br.mk (fun h => ?_) (fun h => ?_))
    | (refine And.intro rfl ?_)
    | (refine And.intro (by omega) ?_)
    | (refine ⟨_, Or.inl ⟨⟨by omega, by omega⟩, rfl⟩, ?_⟩)
    | (refine And.intro (by simp only [lens_all, its_len]; first | done | omega) ?_)
    | (refine And.intro (Nat.le_refl _) ?_)
    | fail
  all_goals exact rfl

def ir_blend_Over_1 : IR :=
(.seq
 (.reg (⟨(some 1), .bx (.t 0), none⟩ ::
   ⟨(some 2), .mv (.c (.int .i64 0)), none⟩ ::
   ⟨(some 3), .mv (.c (.bool false)), none⟩ ::
   ⟨(some 4), .mv (.c (.int .i64 0)), none⟩ ::
   []))
 (.seq
  (.reg (⟨(some 5), .ld 4 true (.t 1), none⟩ ::
    ⟨(some 6), .call (.c (.fn 61 [])) [(.t 5)], none⟩ ::
    ⟨(some 2), .mv (.t 6), none⟩ ::
    ⟨(some 3), .mv (.c (.bool true)), none⟩ ::
    ⟨(some 4), .mv (.c (.int .i64 0)), none⟩ ::
    []))
  .ret))
theorem cd_blend_Over_1 : Code1 Try.prog 68 7 ir_blend_Over_1 [.t 2, .t 3, .t 4] := ⟨Try.call68, _, _, Try.func68, rfl, by kernel_rfl, by kernel_rfl, by kernel_rfl, by kernel_rfl⟩

theorem fs_Ov1 (p : Pr) : FS Try.prog 68 [prS p] (trS (ovC p)) := by
  have cv := fs_value p
  refine fs_of_cvc mixed cd_blend_Over_1 (by simp) ?_
  obtain ⟨x, y, ok, is⟩ := p
  repeat' (conv => whnf); first
    | ((refine Or.inl ⟨by rfl, _, cv, ?_⟩))
    | ((refine Br.beq (by rfl) ?_))
    | ((refine Br.bne (by rfl) ?_))
    | (refine Br.tt ?_)
    | (refine Br.ff ?_)
    | (refine Br.dec (fun h => ?_) (fun h => ?_)) <;> try (exfalso; omega)
    | (refine Br.neg ?_)
    | (refine Br.mk (fun h => ?_) (fun h => ?_))
    | (refine And.intro rfl ?_)
    | (refine And.intro (by omega) ?_)
    | (refine ⟨_, Or.inl ⟨⟨by omega, by omega⟩, rfl⟩, ?_⟩)
    | (refine And.intro (by simp only [lens_all]; first | done | omega) ?_)
    | (refine And.intro (Nat.le_refl _) ?_)
    | fail
  all_goals exact rfl

def ir_blend_Better_1 : IR :=
(.seq
 (.reg (⟨(some 1), .bx (.t 0), none⟩ ::
   ⟨(some 2), .mv (.c (.int .i64 0)), none⟩ ::
   ⟨(some 3), .mv (.c (.bool false)), none⟩ ::
   ⟨(some 4), .mv (.c (.int .i64 0)), none⟩ ::
   []))
 (.seq
  (.draw (⟨(some 5), .fa 0 (.t 1), none⟩ ::
    ⟨(some 6), .ld 1 false (.t 5), none⟩ ::
    ⟨(some 7), .fa 2 (.t 1), none⟩ ::
    ⟨(some 8), .ld 1 false (.t 7), none⟩ ::
    ⟨(some 9), .mv (.t 8), none⟩ ::
    ⟨(some 10), .fa 3 (.t 1), some (9, true)⟩ ::
    ⟨(some 11), .ld 1 false (.t 10), some (9, true)⟩ ::
    ⟨(some 12), .un .not (.t 11), some (9, true)⟩ ::
    ⟨(some 13), .mv (.t 12), some (9, true)⟩ ::
    ⟨(some 14), .fa 0 (.t 1), some (13, false)⟩ ::
    ⟨(some 15), .ld 1 false (.t 14), some (13, false)⟩ ::
    ⟨(some 16), .fa 1 (.t 1), some (13, false)⟩ ::
    ⟨(some 17), .ld 1 false (.t 16), some (13, false)⟩ ::
    ⟨(some 18), .bin .lss (.t 15) (.t 17), some (13, false)⟩ ::
    ⟨(some 19), .pick (.t 13) (.c (.bool true)) (.t 18), some (9, true)⟩ ::
    ⟨(some 20), .pick (.t 9) (.t 19) (.c (.bool false)), none⟩ ::
    ⟨(some 2), .mv (.t 6), none⟩ ::
    [])
   (⟨(some 3), .mv (.t 20), none⟩ ::
    ⟨(some 4), .mv (.c (.int .i64 0)), none⟩ ::
    []))
  .ret))
theorem cd_blend_Better_1 : Code1 Try.prog 70 21 ir_blend_Better_1 [.t 2, .t 3, .t 4] := ⟨Try.call70, _, _, Try.func70, rfl, by kernel_rfl, by kernel_rfl, by kernel_rfl, by kernel_rfl⟩

theorem fs_Be1 (p : Pr) : FS Try.prog 70 [prS p] (trS (beC p)) := by
  refine fs_of_cvc mixed cd_blend_Better_1 (by simp) ?_
  obtain ⟨x, y, ok, is⟩ := p
  cases ok <;> cases is
  all_goals repeat' (conv => whnf); first
    | ((refine Br.beq (by rfl) ?_))
    | ((refine Br.bne (by rfl) ?_))
    | (refine Br.tt ?_)
    | (refine Br.ff ?_)
    | (refine Br.dec (fun h => ?_) (fun h => ?_)) <;> try (exfalso; omega)
    | (refine Br.neg ?_)
    | (refine Br.mk (fun h => ?_) (fun h => ?_))
    | (refine And.intro rfl ?_)
    | (refine And.intro (by omega) ?_)
    | (refine ⟨_, Or.inl ⟨⟨by omega, by omega⟩, rfl⟩, ?_⟩)
    | (refine And.intro (by simp only [lens_all, its_len]; first | done | omega) ?_)
    | (refine And.intro (Nat.le_refl _) ?_)
    | fail
  all_goals exact rfl

/-- A vector and an error. -/
def VE (r : Int × List (Int × Int) × Int) : SV := .tup [VC r.1 r.2.1, .int .i64 r.2.2]
def unR (r n1 : Int) (l1 : List (Int × Int)) (n2 : Int) (l2 : List (Int × Int)) : Int × List (Int × Int) × Int := if isR r = true then resM (unC r) (sn n1 l1) (sl n1 l1) (sn n2 l2) (sl n2 l2) else (0, [], 8)
def meR (r n1 : Int) (l1 : List (Int × Int)) (n2 : Int) (l2 : List (Int × Int)) : Int × List (Int × Int) × Int := if isR r = true then resM (meC r) (sn n1 l1) (sl n1 l1) (sn n2 l2) (sl n2 l2) else (0, [], 8)
def ovR (n1 : Int) (l1 : List (Int × Int)) (n2 : Int) (l2 : List (Int × Int)) : Int × List (Int × Int) × Int := resM ovC (sn n2 l2) (sl n2 l2) (sn n1 l1) (sl n1 l1)
def beR (n1 : Int) (l1 : List (Int × Int)) (n2 : Int) (l2 : List (Int × Int)) : Int × List (Int × Int) × Int := resM beC (sn n1 l1) (sl n1 l1) (sn n2 l2) (sl n2 l2)

theorem frz_its (l : List (Int × Int)) : List.take l.length (List.drop 0 (its l)) = its l := by
  rw [List.drop_zero, ← its_len, List.take_length]

def ir_blend_Union : IR :=
(.seq
 (.reg (⟨(some 3), .bx (.t 0), none⟩ ::
   ⟨(some 4), .bx (.t 1), none⟩ ::
   ⟨(some 5), .bx (.t 2), none⟩ ::
   ⟨(some 6), .al [.int .i64 0, .nils], none⟩ ::
   ⟨(some 7), .mv (.c (.int .i64 0)), none⟩ ::
   []))
 (.seq
  (.seq
   (.reg (⟨(some 8), .ld 1 false (.t 3), none⟩ ::
     ⟨(some 9), .call (.c (.fn 55 [])) [(.t 8)], none⟩ ::
     ⟨(some 10), .un .not (.t 9), none⟩ ::
     []))
   (.cond (.t 10)
    (.seq
     (.reg (⟨(some 11), .bld [.int .i64 0, .nils] [], none⟩ ::
       ⟨none, .st 2 (.t 6) (.t 11), none⟩ ::
       ⟨(some 7), .mv (.c (.int .i64 8)), none⟩ ::
       []))
     .ret)
    .skip))
  (.seq
   (.reg (⟨(some 12), .ld 2 true (.t 4), none⟩ ::
     ⟨(some 13), .ld 2 true (.t 5), none⟩ ::
     ⟨(some 14), .fn 57 [(.t 3)], none⟩ ::
     ⟨(some 15), .call (.c (.fn 56 [])) [(.t 12), (.t 13), (.t 14)], none⟩ ::
     ⟨(some 16), .ex 0 (.t 15), none⟩ ::
     ⟨(some 17), .ex 1 (.t 15), none⟩ ::
     ⟨none, .st 2 (.t 6) (.t 16), none⟩ ::
     ⟨(some 7), .mv (.t 17), none⟩ ::
     []))
   .ret)))
theorem cd_blend_Union : Code1 Try.prog 18 18 ir_blend_Union [.c 2 true 6, .t 7] := ⟨Try.call18, _, _, Try.func18, rfl, by kernel_rfl, by kernel_rfl, by kernel_rfl, by kernel_rfl⟩

theorem fs_bUnion (r n1 : Int) (l1 : List (Int × Int)) (n2 : Int) (l2 : List (Int × Int)) (hl1 : l1.length ≤ 400000000) (hl2 : l2.length ≤ 400000000) (h1 : Ib l1) (h2 : Ib l2) : FS Try.prog 18 [.int .i64 r, VC n1 l1, VC n2 l2] (VE (unR r n1 l1 n2 l2)) := by
  refine fs_of_cvc mixed cd_blend_Union (by simp) ?_
  unfold unR
  obtain ⟨b, hb⟩ : ∃ b, isR r = b := ⟨_, rfl⟩
  have ci := fs_Is r
  rw [hb] at ci ⊢
  have c := fo_made n1 l1 n2 l2 hl1 hl2 57 [.box [.int .i64 r] 0] (unC r) (fun _ => rfl) (fun p hp => fs_Un1 r p.2 (mg_I h1.sl h2.sl hp).1 (mg_I h1.sl h2.sl hp).2) _ rfl
  generalize resM (unC r) (sn n1 l1) (sl n1 l1) (sn n2 l2) (sl n2 l2) = t at c ⊢
  cases b
  · repeat' (conv => whnf); first
      | ((refine Or.inl ⟨by rfl, _, ci, ?_⟩))
      | ((refine Br.beq (by rfl) ?_))
      | ((refine Br.bne (by rfl) ?_))
      | (refine Br.tt ?_)
      | (refine Br.ff ?_)
      | (refine Br.dec (fun h => ?_) (fun h => ?_)) <;> try (exfalso; omega)
      | (refine Br.neg ?_)
      | (refine Br.mk (fun h => ?_) (fun h => ?_))
      | (refine And.intro rfl ?_)
      | (refine And.intro (by omega) ?_)
      | (refine ⟨_, Or.inl ⟨⟨by omega, by omega⟩, rfl⟩, ?_⟩)
      | (refine And.intro (by simp only [lens_all]; first | done | omega) ?_)
      | (refine And.intro (Nat.le_refl _) ?_)
      | fail
    exact ⟨⟨rfl, rfl, trivial⟩, rfl, trivial⟩
  · repeat' (conv => whnf); first
      | ((refine Or.inl ⟨by rfl, _, ci, ?_⟩))
      | ((refine ⟨_, _, c, rfl, (fun b hb => by simp at hb; subst hb; exact its_loose _), ?_⟩))
      | ((refine Or.inr (Or.inr (Or.inr (Or.inr (Or.inl ?_))))))
      | ((refine Br.beq (by rfl) ?_))
      | ((refine Br.bne (by rfl) ?_))
      | (refine Br.tt ?_)
      | (refine Br.ff ?_)
      | (refine Br.dec (fun h => ?_) (fun h => ?_)) <;> try (exfalso; omega)
      | (refine Br.neg ?_)
      | (refine Br.mk (fun h => ?_) (fun h => ?_))
      | (refine And.intro rfl ?_)
      | (refine And.intro (by omega) ?_)
      | (refine ⟨_, Or.inl ⟨⟨by omega, by omega⟩, rfl⟩, ?_⟩)
      | (refine And.intro (by simp only [lens_all, its_len]; first | done | omega) ?_)
      | (refine And.intro (Nat.le_refl _) ?_)
      | fail
    conv => whnf
    rw [frz_its]
    rfl

def ir_blend_Meet : IR :=
(.seq
 (.reg (⟨(some 3), .bx (.t 0), none⟩ ::
   ⟨(some 4), .bx (.t 1), none⟩ ::
   ⟨(some 5), .bx (.t 2), none⟩ ::
   ⟨(some 6), .al [.int .i64 0, .nils], none⟩ ::
   ⟨(some 7), .mv (.c (.int .i64 0)), none⟩ ::
   []))
 (.seq
  (.seq
   (.reg (⟨(some 8), .ld 1 false (.t 3), none⟩ ::
     ⟨(some 9), .call (.c (.fn 55 [])) [(.t 8)], none⟩ ::
     ⟨(some 10), .un .not (.t 9), none⟩ ::
     []))
   (.cond (.t 10)
    (.seq
     (.reg (⟨(some 11), .bld [.int .i64 0, .nils] [], none⟩ ::
       ⟨none, .st 2 (.t 6) (.t 11), none⟩ ::
       ⟨(some 7), .mv (.c (.int .i64 8)), none⟩ ::
       []))
     .ret)
    .skip))
  (.seq
   (.reg (⟨(some 12), .ld 2 true (.t 4), none⟩ ::
     ⟨(some 13), .ld 2 true (.t 5), none⟩ ::
     ⟨(some 14), .fn 64 [(.t 3)], none⟩ ::
     ⟨(some 15), .call (.c (.fn 56 [])) [(.t 12), (.t 13), (.t 14)], none⟩ ::
     ⟨(some 16), .ex 0 (.t 15), none⟩ ::
     ⟨(some 17), .ex 1 (.t 15), none⟩ ::
     ⟨none, .st 2 (.t 6) (.t 16), none⟩ ::
     ⟨(some 7), .mv (.t 17), none⟩ ::
     []))
   .ret)))
theorem cd_blend_Meet : Code1 Try.prog 20 18 ir_blend_Meet [.c 2 true 6, .t 7] := ⟨Try.call20, _, _, Try.func20, rfl, by kernel_rfl, by kernel_rfl, by kernel_rfl, by kernel_rfl⟩

theorem fs_bMeet (r n1 : Int) (l1 : List (Int × Int)) (n2 : Int) (l2 : List (Int × Int)) (hl1 : l1.length ≤ 400000000) (hl2 : l2.length ≤ 400000000) (h1 : Ib l1) (h2 : Ib l2) : FS Try.prog 20 [.int .i64 r, VC n1 l1, VC n2 l2] (VE (meR r n1 l1 n2 l2)) := by
  refine fs_of_cvc mixed cd_blend_Meet (by simp) ?_
  unfold meR
  obtain ⟨b, hb⟩ : ∃ b, isR r = b := ⟨_, rfl⟩
  have ci := fs_Is r
  rw [hb] at ci ⊢
  have c := fo_made n1 l1 n2 l2 hl1 hl2 64 [.box [.int .i64 r] 0] (meC r) (fun _ => rfl) (fun p hp => fs_Me1 r p.2 (mg_I h1.sl h2.sl hp).1 (mg_I h1.sl h2.sl hp).2) _ rfl
  generalize resM (meC r) (sn n1 l1) (sl n1 l1) (sn n2 l2) (sl n2 l2) = t at c ⊢
  cases b
  · repeat' (conv => whnf); first
      | ((refine Or.inl ⟨by rfl, _, ci, ?_⟩))
      | ((refine Br.beq (by rfl) ?_))
      | ((refine Br.bne (by rfl) ?_))
      | (refine Br.tt ?_)
      | (refine Br.ff ?_)
      | (refine Br.dec (fun h => ?_) (fun h => ?_)) <;> try (exfalso; omega)
      | (refine Br.neg ?_)
      | (refine Br.mk (fun h => ?_) (fun h => ?_))
      | (refine And.intro rfl ?_)
      | (refine And.intro (by omega) ?_)
      | (refine ⟨_, Or.inl ⟨⟨by omega, by omega⟩, rfl⟩, ?_⟩)
      | (refine And.intro (by simp only [lens_all]; first | done | omega) ?_)
      | (refine And.intro (Nat.le_refl _) ?_)
      | fail
    exact ⟨⟨rfl, rfl, trivial⟩, rfl, trivial⟩
  · repeat' (conv => whnf); first
      | ((refine Or.inl ⟨by rfl, _, ci, ?_⟩))
      | ((refine ⟨_, _, c, rfl, (fun b hb => by simp at hb; subst hb; exact its_loose _), ?_⟩))
      | ((refine Or.inr (Or.inr (Or.inr (Or.inr (Or.inl ?_))))))
      | ((refine Br.beq (by rfl) ?_))
      | ((refine Br.bne (by rfl) ?_))
      | (refine Br.tt ?_)
      | (refine Br.ff ?_)
      | (refine Br.dec (fun h => ?_) (fun h => ?_)) <;> try (exfalso; omega)
      | (refine Br.neg ?_)
      | (refine Br.mk (fun h => ?_) (fun h => ?_))
      | (refine And.intro rfl ?_)
      | (refine And.intro (by omega) ?_)
      | (refine ⟨_, Or.inl ⟨⟨by omega, by omega⟩, rfl⟩, ?_⟩)
      | (refine And.intro (by simp only [lens_all, its_len]; first | done | omega) ?_)
      | (refine And.intro (Nat.le_refl _) ?_)
      | fail
    conv => whnf
    rw [frz_its]
    rfl

def ir_blend_Over : IR :=
(.seq
 (.reg (⟨(some 2), .bx (.t 0), none⟩ ::
   ⟨(some 3), .bx (.t 1), none⟩ ::
   ⟨(some 4), .al [.int .i64 0, .nils], none⟩ ::
   ⟨(some 5), .mv (.c (.int .i64 0)), none⟩ ::
   []))
 (.seq
  (.reg (⟨(some 6), .ld 2 true (.t 3), none⟩ ::
    ⟨(some 7), .ld 2 true (.t 2), none⟩ ::
    ⟨(some 8), .call (.c (.fn 56 [])) [(.t 6), (.t 7), (.c (.fn 68 []))], none⟩ ::
    ⟨(some 9), .ex 0 (.t 8), none⟩ ::
    ⟨(some 10), .ex 1 (.t 8), none⟩ ::
    ⟨none, .st 2 (.t 4) (.t 9), none⟩ ::
    ⟨(some 5), .mv (.t 10), none⟩ ::
    []))
  .ret))
theorem cd_blend_Over : Code1 Try.prog 23 11 ir_blend_Over [.c 2 true 4, .t 5] := ⟨Try.call23, _, _, Try.func23, rfl, by kernel_rfl, by kernel_rfl, by kernel_rfl, by kernel_rfl⟩

theorem fs_bOver (n1 : Int) (l1 : List (Int × Int)) (n2 : Int) (l2 : List (Int × Int)) (hl1 : l1.length ≤ 400000000) (hl2 : l2.length ≤ 400000000) : FS Try.prog 23 [VC n1 l1, VC n2 l2] (VE (ovR n1 l1 n2 l2)) := by
  refine fs_of_cvc mixed cd_blend_Over (by simp) ?_
  unfold ovR
  have c := fo_made n2 l2 n1 l1 hl2 hl1 68 [] ovC (fun _ => rfl) (fun p hp => fs_Ov1 p.2) _ rfl
  generalize resM ovC (sn n2 l2) (sl n2 l2) (sn n1 l1) (sl n1 l1) = t at c ⊢
  repeat' (conv => whnf); first
    | ((refine Or.inr (Or.inl ⟨by rfl, _, _, c, ?_⟩)))
    | ((refine Br.beq (by rfl) ?_))
    | ((refine Br.bne (by rfl) ?_))
    | (refine Br.tt ?_)
    | (refine Br.ff ?_)
    | (refine Br.dec (fun h => ?_) (fun h => ?_)) <;> try (exfalso; omega)
    | (refine Br.neg ?_)
    | (refine Br.mk (fun h => ?_) (fun h => ?_))
    | (refine And.intro rfl ?_)
    | (refine And.intro (by omega) ?_)
    | (refine ⟨_, Or.inl ⟨⟨by omega, by omega⟩, rfl⟩, ?_⟩)
    | (refine And.intro (by simp only [lens_all, its_len]; first | done | omega) ?_)
    | (refine And.intro (Nat.le_refl _) ?_)
    | fail
  conv => whnf
  rw [frz_its]
  rfl

def ir_blend_Better : IR :=
(.seq
 (.reg (⟨(some 2), .bx (.t 0), none⟩ ::
   ⟨(some 3), .bx (.t 1), none⟩ ::
   ⟨(some 4), .al [.int .i64 0, .nils], none⟩ ::
   ⟨(some 5), .mv (.c (.int .i64 0)), none⟩ ::
   []))
 (.seq
  (.reg (⟨(some 6), .ld 2 true (.t 2), none⟩ ::
    ⟨(some 7), .ld 2 true (.t 3), none⟩ ::
    ⟨(some 8), .call (.c (.fn 56 [])) [(.t 6), (.t 7), (.c (.fn 70 []))], none⟩ ::
    ⟨(some 9), .ex 0 (.t 8), none⟩ ::
    ⟨(some 10), .ex 1 (.t 8), none⟩ ::
    ⟨none, .st 2 (.t 4) (.t 9), none⟩ ::
    ⟨(some 5), .mv (.t 10), none⟩ ::
    []))
  .ret))
theorem cd_blend_Better : Code1 Try.prog 25 11 ir_blend_Better [.c 2 true 4, .t 5] := ⟨Try.call25, _, _, Try.func25, rfl, by kernel_rfl, by kernel_rfl, by kernel_rfl, by kernel_rfl⟩

theorem fs_bBetter (n1 : Int) (l1 : List (Int × Int)) (n2 : Int) (l2 : List (Int × Int)) (hl1 : l1.length ≤ 400000000) (hl2 : l2.length ≤ 400000000) : FS Try.prog 25 [VC n1 l1, VC n2 l2] (VE (beR n1 l1 n2 l2)) := by
  refine fs_of_cvc mixed cd_blend_Better (by simp) ?_
  unfold beR
  have c := fo_made n1 l1 n2 l2 hl1 hl2 70 [] beC (fun _ => rfl) (fun p hp => fs_Be1 p.2) _ rfl
  generalize resM beC (sn n1 l1) (sl n1 l1) (sn n2 l2) (sl n2 l2) = t at c ⊢
  repeat' (conv => whnf); first
    | ((refine Or.inr (Or.inl ⟨by rfl, _, _, c, ?_⟩)))
    | ((refine Br.beq (by rfl) ?_))
    | ((refine Br.bne (by rfl) ?_))
    | (refine Br.tt ?_)
    | (refine Br.ff ?_)
    | (refine Br.dec (fun h => ?_) (fun h => ?_)) <;> try (exfalso; omega)
    | (refine Br.neg ?_)
    | (refine Br.mk (fun h => ?_) (fun h => ?_))
    | (refine And.intro rfl ?_)
    | (refine And.intro (by omega) ?_)
    | (refine ⟨_, Or.inl ⟨⟨by omega, by omega⟩, rfl⟩, ?_⟩)
    | (refine And.intro (by simp only [lens_all, its_len]; first | done | omega) ?_)
    | (refine And.intro (Nat.le_refl _) ?_)
    | fail
  conv => whnf
  rw [frz_its]
  rfl
end
section
open Go.RowKit
attribute [local irreducible] FS FO IT HS

/-- What is at a place. -/
def gt (l : List (Int × Int)) (at' : Int) : Option Int := (l.find? fun x => decide (x.1 = at')).map (·.2)
def gm (l : List (Int × Pr)) (at' : Int) : Option Pr := (l.find? fun x => decide (x.1 = at')).map (·.2)
theorem gt_nil (k : Int) : gt [] k = none := rfl
theorem gt_cons (x : Int × Int) (l : List (Int × Int)) (k : Int) : gt (x :: l) k = if x.1 = k then some x.2 else gt l k := by
  unfold gt
  rw [List.find?_cons]
  by_cases h : x.1 = k <;> simp [h]
theorem gm_cons (x : Int × Pr) (l : List (Int × Pr)) (k : Int) : gm (x :: l) k = if x.1 = k then some x.2 else gm l k := by
  unfold gm
  rw [List.find?_cons]
  by_cases h : x.1 = k <;> simp [h]
theorem Up.tail {x : Int × Int} {l : List (Int × Int)} (h : Up (x :: l)) : Up l := (List.pairwise_cons.1 h).2
theorem Up.head {x : Int × Int} {l : List (Int × Int)} (h : Up (x :: l)) : ∀ y ∈ l, x.1 < y.1 := (List.pairwise_cons.1 h).1
theorem gt_none {l : List (Int × Int)} {k : Int} (h : ∀ x ∈ l, x.1 ≠ k) : gt l k = none := by
  unfold gt
  rw [Option.map_eq_none_iff, List.find?_eq_none]
  intro x hx; simpa using h x hx
theorem gt_lt {l : List (Int × Int)} {k : Int} (h : ∀ x ∈ l, k < x.1) : gt l k = none := gt_none fun x hx => by have := h x hx; omega
theorem gt_some {l : List (Int × Int)} (hu : Up l) {x : Int × Int} (hx : x ∈ l) : gt l x.1 = some x.2 := by
  induction l with
  | nil => simp at hx
  | cons y l ih =>
    rw [gt_cons]
    rcases List.mem_cons.1 hx with rfl | hx
    · simp
    · have := hu.head x hx
      rw [if_neg (by omega)]; exact ih hu.tail hx
theorem gt_mem {l : List (Int × Int)} {k v : Int} (h : gt l k = some v) : (k, v) ∈ l := by
  unfold gt at h
  obtain ⟨x, hx, rfl⟩ := Option.map_eq_some_iff.1 h
  have h1 := List.find?_some hx
  simp at h1
  subst h1
  exact List.mem_of_find?_eq_some hx
/-- Two vectors that have the same at each place are the same. -/
theorem up_ext {l m : List (Int × Int)} (hl : Up l) (hm : Up m) (h : ∀ k, gt l k = gt m k) : l = m := by
  induction l generalizing m with
  | nil =>
    cases m with
    | nil => rfl
    | cons y m =>
      have := h y.1
      rw [gt_nil, gt_cons, if_pos rfl] at this
      cases this
  | cons x l ih =>
    cases m with
    | nil =>
      have := h x.1
      rw [gt_nil, gt_cons, if_pos rfl] at this
      cases this
    | cons y m =>
      have hxy : x.1 = y.1 := by
        rcases Int.lt_trichotomy x.1 y.1 with h' | h' | h'
        · have := h x.1
          rw [gt_cons, if_pos rfl, gt_cons, if_neg (by omega), gt_lt fun z hz => by have := hm.head z hz; omega] at this
          cases this
        · exact h'
        · have := h y.1
          rw [gt_cons, if_neg (by omega), gt_cons, if_pos rfl, gt_lt fun z hz => by have := hl.head z hz; omega] at this
          cases this
      have hv : x.2 = y.2 := by
        have := h x.1
        rw [gt_cons, if_pos rfl, gt_cons, if_pos hxy.symm] at this
        exact Option.some.inj this
      have ht : l = m := ih hl.tail hm.tail fun k => by
        have := h k
        rw [gt_cons, gt_cons, hxy] at this
        by_cases hk : y.1 = k
        · subst hk
          rw [gt_lt fun z hz => by have := hl.head z hz; omega, gt_lt fun z hz => by have := hm.head z hz; omega]
        · rwa [if_neg hk, if_neg hk] at this
      rw [ht, show x = y from Prod.ext hxy hv]

def prOf : Option Int → Option Int → Option Pr
  | none, none => none
  | some x, none => some ⟨x, 0, true, false⟩
  | none, some y => some ⟨0, y, false, true⟩
  | some x, some y => some ⟨x, y, true, true⟩
theorem gm_mgF : ∀ (n : Nat) (a b : List (Int × Int)), a.length + b.length ≤ n → Up a → Up b → ∀ k, gm (mgF n a b) k = prOf (gt a k) (gt b k)
  | 0, a, b, h, _, _, k => by
    have ha : a = [] := List.length_eq_zero_iff.1 (by omega)
    have hb : b = [] := List.length_eq_zero_iff.1 (by omega)
    subst ha hb; rfl
  | n + 1, [], [], _, _, _, k => rfl
  | n + 1, x :: xs, [], h, ha, hb, k => by
    simp only [mgF, gm_cons, gt_cons]
    rw [gm_mgF n xs [] (by simpa using h) ha.tail hb k]
    split
    · rw [gt_nil]; rfl
    · rfl
  | n + 1, [], y :: ys, h, ha, hb, k => by
    simp only [mgF, gm_cons, gt_cons]
    rw [gm_mgF n [] ys (by simpa using h) ha hb.tail k]
    split
    · rw [gt_nil]; rfl
    · rfl
  | n + 1, x :: xs, y :: ys, h, ha, hb, k => by
    simp only [List.length_cons] at h
    simp only [mgF]
    split
    · rename_i hlt
      rw [gm_cons, gm_mgF n xs (y :: ys) (by simp only [List.length_cons]; omega) ha.tail hb k, gt_cons x]
      split
      · rename_i hk
        rw [gt_lt (l := y :: ys) fun z hz => by
          rcases List.mem_cons.1 hz with rfl | hz
          · omega
          · have := hb.head z hz; omega]
        rfl
      · rfl
    · split
      · rename_i hlt
        rw [gm_cons, gm_mgF n (x :: xs) ys (by simp only [List.length_cons]; omega) ha hb.tail k, gt_cons y]
        split
        · rename_i hk
          rw [gt_lt (l := x :: xs) fun z hz => by
            rcases List.mem_cons.1 hz with rfl | hz
            · omega
            · have := ha.head z hz; omega]
          rfl
        · rfl
      · have hxy : x.1 = y.1 := by omega
        rw [gm_cons, gm_mgF n xs ys (by omega) ha.tail hb.tail k, gt_cons, gt_cons, ← hxy]
        split
        · rfl
        · rfl
theorem gm_mg {a b : List (Int × Int)} (ha : Up a) (hb : Up b) (k : Int) : gm (mg a b) k = prOf (gt a k) (gt b k) := gm_mgF _ a b (Nat.le_refl _) ha hb k

/-- The places rise. -/
def UpM (l : List (Int × Pr)) : Prop := l.Pairwise fun x y => x.1 < y.1
theorem mgF_lo : ∀ (n : Nat) (a b : List (Int × Int)) (k : Int), (∀ x ∈ a, k < x.1) → (∀ x ∈ b, k < x.1) → ∀ q ∈ mgF n a b, k < q.1 := by
  intro n a b k ha hb q hq
  obtain ⟨h1, h2, _, _, h5⟩ := mg_mem n a b q hq
  rcases h5 with h | h
  · exact ha _ (h1 h)
  · exact hb _ (h2 h)
theorem up_mgF : ∀ (n : Nat) (a b : List (Int × Int)), Up a → Up b → UpM (mgF n a b)
  | 0, _, _, _, _ => .nil
  | _ + 1, [], [], _, _ => .nil
  | n + 1, x :: xs, [], ha, hb => by
    simp only [mgF]
    exact List.pairwise_cons.2 ⟨mgF_lo n xs [] x.1 ha.head (by simp), up_mgF n xs [] ha.tail hb⟩
  | n + 1, [], y :: ys, ha, hb => by
    simp only [mgF]
    exact List.pairwise_cons.2 ⟨mgF_lo n [] ys y.1 (by simp) hb.head, up_mgF n [] ys ha hb.tail⟩
  | n + 1, x :: xs, y :: ys, ha, hb => by
    simp only [mgF]
    split
    · rename_i h
      exact List.pairwise_cons.2 ⟨mgF_lo n xs (y :: ys) x.1 ha.head (fun z hz => by
        rcases List.mem_cons.1 hz with rfl | hz
        · exact h
        · have := hb.head z hz; omega), up_mgF n xs _ ha.tail hb⟩
    · split
      · rename_i h
        exact List.pairwise_cons.2 ⟨mgF_lo n (x :: xs) ys y.1 (fun z hz => by
          rcases List.mem_cons.1 hz with rfl | hz
          · exact h
          · have := ha.head z hz; omega) hb.head, up_mgF n _ ys ha hb.tail⟩
      · have hxy : x.1 = y.1 := by omega
        exact List.pairwise_cons.2 ⟨mgF_lo n xs ys x.1 ha.head (fun z hz => by have := hb.head z hz; omega), up_mgF n xs ys ha.tail hb.tail⟩
theorem up_mg {a b : List (Int × Int)} (ha : Up a) (hb : Up b) : UpM (mg a b) := up_mgF _ a b ha hb

theorem itM_mem {c : Pr → Int × Bool × Int} {l : List (Int × Pr)} {x : Int × Int} (h : x ∈ itM c l) : ∃ q ∈ l, q.1 = x.1 ∧ (c q.2).2.1 = true ∧ x.2 = (c q.2).1 := by
  unfold itM at h
  obtain ⟨q, hq, h⟩ := List.mem_filterMap.1 h
  split at h
  · rename_i hc
    cases h
    exact ⟨q, hq, rfl, hc, rfl⟩
  · cases h
theorem up_itM {c : Pr → Int × Bool × Int} : ∀ {l : List (Int × Pr)}, UpM l → Up (itM c l)
  | [], _ => .nil
  | q :: l, h => by
    have h' := List.pairwise_cons.1 h
    have ih := up_itM (c := c) (l := l) h'.2
    unfold itM at ih ⊢
    rw [List.filterMap_cons]
    cases hc : (c q.2).2.1 with
    | false => simpa [hc] using ih
    | true =>
      simp only [if_true]
      refine List.pairwise_cons.2 ⟨fun x hx => ?_, ih⟩
      obtain ⟨q', hq', e1, _⟩ := itM_mem (c := c) hx
      have := h'.1 q' hq'
      simp only; omega
theorem gt_itM {c : Pr → Int × Bool × Int} : ∀ {l : List (Int × Pr)}, UpM l → ∀ k, gt (itM c l) k = (gm l k).bind fun p => if (c p).2.1 = true then some (c p).1 else none
  | [], _, k => rfl
  | q :: l, h, k => by
    have h' := List.pairwise_cons.1 h
    have ih := gt_itM (c := c) (l := l) h'.2 k
    rw [gm_cons]
    have e : itM c (q :: l) = (if (c q.2).2.1 = true then [(q.1, (c q.2).1)] else []) ++ itM c l := by
      unfold itM; rw [List.filterMap_cons]
      cases (c q.2).2.1 <;> simp
    rw [e]
    by_cases hk : q.1 = k
    · rw [if_pos hk]
      subst hk
      have hn : gt (itM c l) q.1 = none := gt_none fun x hx => by
        obtain ⟨q', hq', e1, _⟩ := itM_mem (c := c) hx
        have := h'.1 q' hq'
        omega
      cases hc : (c q.2).2.1 with
      | true => simp [gt_cons, hc]
      | false => simp [hc, hn]
    · rw [if_neg hk, ← ih]
      cases (c q.2).2.1 with
      | true => simp [gt_cons, hk]
      | false => simp
theorem gm_of_mem {l : List (Int × Pr)} (h : UpM l) {q : Int × Pr} (hq : q ∈ l) : gm l q.1 = some q.2 := by
  induction l with
  | nil => simp at hq
  | cons y l ih =>
    have h' := List.pairwise_cons.1 h
    rw [gm_cons]
    rcases List.mem_cons.1 hq with rfl | hq
    · simp
    · have := h'.1 q hq
      rw [if_neg (by omega)]; exact ih h'.2 hq
theorem gm_mem {l : List (Int × Pr)} {k : Int} {p : Pr} (h : gm l k = some p) : (k, p) ∈ l := by
  unfold gm at h
  obtain ⟨x, hx, rfl⟩ := Option.map_eq_some_iff.1 h
  have h1 := List.find?_some hx
  simp at h1
  subst h1
  exact List.mem_of_find?_eq_some hx

/-- Where the only error is e. -/
theorem erM_none {c : Pr → Int × Bool × Int} {l : List (Int × Pr)} (h : ∀ q ∈ l, (c q.2).2.2 = 0) : erM c l = none := by
  unfold erM
  rw [Option.map_eq_none_iff, List.find?_eq_none]
  intro q hq; simpa using h q hq
theorem erM_some {c : Pr → Int × Bool × Int} {l : List (Int × Pr)} {e : Int} (he : ∀ q ∈ l, (c q.2).2.2 = 0 ∨ (c q.2).2.2 = e) (h : ∃ q ∈ l, (c q.2).2.2 ≠ 0) : erM c l = some e := by
  obtain ⟨q, hq, hne⟩ := h
  unfold erM
  cases hf : l.find? fun p => decide ((c p.2).2.2 ≠ 0) with
  | none =>
    rw [List.find?_eq_none] at hf
    have := hf q hq
    simp at this
    exact absurd this hne
  | some p =>
    have h1 := List.find?_some hf
    have h2 := List.mem_of_find?_eq_some hf
    simp at h1
    rcases he p h2 with h | h
    · exact absurd h h1
    · simp [h]
end
end Go.Proofs.Ytckbagpdahhiiaa
