/- The laws on two sparse vectors: the program answers as the document. -/
import Derived.Test.YtckbagpdahhiiaaV8
namespace Go.Proofs.Ytckbagpdahhiiaa
section
open Go.RowKit
attribute [local irreducible] FS FO IT HS

theorem fs_same9 (n : Int) (l : List (Int × Int)) (hl : l.length ≤ 1000000000) : FS Try.prog 22 [VC n l, VC n l] (.bool true) := by
  have := fs_r9Same n n l l hl hl
  rwa [decide_eq_true rfl, decide_eq_true rfl, Bool.true_and] at this
theorem Ib.take {l : List (Int × Int)} (h : Ib l) (k : Nat) : Ib (l.take k) := fun x hx => h x (List.mem_of_mem_take hx)
theorem len_un (r n1 : Int) (l1 : List (Int × Int)) (n2 : Int) (l2 : List (Int × Int)) : (ruR r (sn n1 l1) (sl n1 l1) (sn n2 l2) (sl n2 l2)).2.1.length ≤ 4096 := by
  have h := ruL_le r (sl n1 l1) (sl n2 l2) (sn n1 l1).toNat
  have h2 := sn_le n1 l1
  unfold ruR
  split
  · split
    · split
      · simp
      · show (ruL r (sl n1 l1) (sl n2 l2) (sn n1 l1).toNat).length ≤ 4096; omega
    · simp
  · simp
theorem len_me (r n1 : Int) (l1 : List (Int × Int)) (n2 : Int) (l2 : List (Int × Int)) : (rmR r (sn n1 l1) (sl n1 l1) (sn n2 l2) (sl n2 l2)).2.1.length ≤ l1.length := by
  have h := List.length_filterMap_le (mV r (sl n2 l2)) (sl n1 l1)
  have h2 := sl_len n1 l1
  unfold rmR
  split
  · split
    · split
      · simp
      · show ((sl n1 l1).filterMap (mV r (sl n2 l2))).length ≤ l1.length; omega
    · simp
  · simp
theorem len_be (n1 : Int) (l1 : List (Int × Int)) (n2 : Int) (l2 : List (Int × Int)) : (rbR (sn n1 l1) (sl n1 l1) (sn n2 l2) (sl n2 l2)).2.1.length ≤ l1.length := by
  have h := List.length_filter_le (bB (sl n2 l2)) (sl n1 l1)
  have h2 := sl_len n1 l1
  unfold rbR
  split
  · show ((sl n1 l1).filter (bB (sl n2 l2))).length ≤ l1.length; omega
  · simp
theorem len_ov (n1 : Int) (l1 : List (Int × Int)) (n2 : Int) (l2 : List (Int × Int)) : (ovR n1 l1 n2 l2).2.1.length ≤ l1.length + l2.length := by
  have h := itM_le ovC (mg (sl n2 l2) (sl n1 l1))
  have h1 := mg_le (sl n2 l2) (sl n1 l1)
  have h2 := sl_len n1 l1
  have h3 := sl_len n2 l2
  unfold ovR resM
  split
  · split
    · simp
    · show (itM ovC (mg (sl n2 l2) (sl n1 l1))).length ≤ l1.length + l2.length; omega
  · simp

def ir_fretworklaw11_BlendSums : IR :=
(.seq
 (.reg (⟨(some 4), .bx (.t 1), none⟩ ::
   ⟨(some 5), .bx (.t 2), none⟩ ::
   ⟨(some 6), .mv (.c (.bool false)), none⟩ ::
   []))
 (.seq
  (.draw (⟨(some 15), .ld 2 true (.t 4), none⟩ ::
    ⟨(some 16), .call (.c (.fn 16 [])) [(.t 15)], none⟩ ::
    ⟨(some 17), .ld 2 true (.t 5), none⟩ ::
    [])
   (⟨(some 18), .call (.c (.fn 16 [])) [(.t 17)], none⟩ ::
    ⟨none, .st 2 (.t 4) (.t 16), none⟩ ::
    ⟨none, .st 2 (.t 5) (.t 18), none⟩ ::
    []))
  (.seq
   (.seq
    (.reg (⟨(some 19), .fa 0 (.t 4), none⟩ ::
      ⟨(some 20), .ld 1 false (.t 19), none⟩ ::
      ⟨(some 21), .bin .gtr (.t 20) (.c (.int .i64 300)), none⟩ ::
      ⟨(some 22), .mv (.t 21), none⟩ ::
      ⟨(some 23), .fa 0 (.t 4), some (22, true)⟩ ::
      ⟨(some 24), .ld 1 false (.t 23), some (22, true)⟩ ::
      ⟨(some 25), .bin .leq (.t 24) (.c (.int .i64 4096)), some (22, true)⟩ ::
      ⟨(some 26), .pick (.t 22) (.t 25) (.c (.bool false)), none⟩ ::
      []))
    (.cond (.t 26)
     (.seq
      (.reg (⟨(some 27), .call (.c (.fn 17 [])) [], none⟩ ::
        ⟨(some 6), .mv (.t 27), none⟩ ::
        []))
      .ret)
     .skip))
   (.seq
    (.reg (⟨(some 29), .mv (.t 0), none⟩ ::
      ⟨(some 30), .ld 2 true (.t 4), none⟩ ::
      ⟨(some 31), .ld 2 true (.t 5), none⟩ ::
      ⟨(some 32), .call (.c (.fn 18 [])) [(.t 29), (.t 30), (.t 31)], none⟩ ::
      ⟨(some 28), .mv (.t 32), none⟩ ::
      ⟨(some 33), .ex 0 (.t 28), none⟩ ::
      ⟨(some 34), .ex 1 (.t 28), none⟩ ::
      ⟨(some 7), .al [.int .i64 0, .nils], none⟩ ::
      ⟨none, .st 2 (.t 7) (.t 33), none⟩ ::
      ⟨(some 8), .mv (.t 34), none⟩ ::
      []))
    (.seq
     (.reg (⟨(some 36), .mv (.t 0), none⟩ ::
       ⟨(some 37), .ld 2 true (.t 4), none⟩ ::
       ⟨(some 38), .ld 2 true (.t 5), none⟩ ::
       ⟨(some 39), .call (.c (.fn 19 [])) [(.t 36), (.t 37), (.t 38)], none⟩ ::
       ⟨(some 35), .mv (.t 39), none⟩ ::
       ⟨(some 40), .ex 0 (.t 35), none⟩ ::
       ⟨(some 41), .ex 1 (.t 35), none⟩ ::
       ⟨(some 9), .al [.int .i64 0, .nils], none⟩ ::
       ⟨none, .st 2 (.t 9) (.t 40), none⟩ ::
       ⟨(some 10), .mv (.t 41), none⟩ ::
       []))
     (.seq
      (.reg (⟨(some 43), .mv (.t 0), none⟩ ::
        ⟨(some 44), .ld 2 true (.t 4), none⟩ ::
        ⟨(some 45), .ld 2 true (.t 5), none⟩ ::
        ⟨(some 46), .call (.c (.fn 20 [])) [(.t 43), (.t 44), (.t 45)], none⟩ ::
        ⟨(some 42), .mv (.t 46), none⟩ ::
        ⟨(some 47), .ex 0 (.t 42), none⟩ ::
        ⟨(some 48), .ex 1 (.t 42), none⟩ ::
        ⟨(some 11), .al [.int .i64 0, .nils], none⟩ ::
        ⟨none, .st 2 (.t 11) (.t 47), none⟩ ::
        ⟨(some 12), .mv (.t 48), none⟩ ::
        []))
      (.seq
       (.reg (⟨(some 50), .mv (.t 0), none⟩ ::
         ⟨(some 51), .ld 2 true (.t 4), none⟩ ::
         ⟨(some 52), .ld 2 true (.t 5), none⟩ ::
         ⟨(some 53), .call (.c (.fn 21 [])) [(.t 50), (.t 51), (.t 52)], none⟩ ::
         ⟨(some 49), .mv (.t 53), none⟩ ::
         ⟨(some 54), .ex 0 (.t 49), none⟩ ::
         ⟨(some 55), .ex 1 (.t 49), none⟩ ::
         ⟨(some 13), .al [.int .i64 0, .nils], none⟩ ::
         ⟨none, .st 2 (.t 13) (.t 54), none⟩ ::
         ⟨(some 14), .mv (.t 55), none⟩ ::
         []))
       (.seq
        (.reg (⟨(some 56), .call (.c (.fn 17 [])) [], none⟩ ::
          ⟨(some 57), .mv (.t 56), none⟩ ::
          ⟨(some 58), .ld 2 true (.t 7), some (57, true)⟩ ::
          ⟨(some 59), .ld 2 true (.t 9), some (57, true)⟩ ::
          ⟨(some 60), .call (.c (.fn 22 [])) [(.t 58), (.t 59)], some (57, true)⟩ ::
          ⟨(some 61), .pick (.t 57) (.t 60) (.c (.bool false)), none⟩ ::
          ⟨(some 62), .mv (.t 61), none⟩ ::
          ⟨(some 63), .mv (.t 8), some (62, true)⟩ ::
          ⟨(some 64), .mv (.t 10), some (62, true)⟩ ::
          ⟨(some 65), .bin .eql (.t 63) (.t 64), some (62, true)⟩ ::
          ⟨(some 66), .pick (.t 62) (.t 65) (.c (.bool false)), none⟩ ::
          ⟨(some 67), .mv (.t 66), none⟩ ::
          ⟨(some 68), .ld 2 true (.t 11), some (67, true)⟩ ::
          ⟨(some 69), .ld 2 true (.t 13), some (67, true)⟩ ::
          ⟨(some 70), .call (.c (.fn 22 [])) [(.t 68), (.t 69)], some (67, true)⟩ ::
          ⟨(some 71), .pick (.t 67) (.t 70) (.c (.bool false)), none⟩ ::
          ⟨(some 72), .mv (.t 71), none⟩ ::
          ⟨(some 73), .mv (.t 12), some (72, true)⟩ ::
          ⟨(some 74), .mv (.t 14), some (72, true)⟩ ::
          ⟨(some 75), .bin .eql (.t 73) (.t 74), some (72, true)⟩ ::
          ⟨(some 76), .pick (.t 72) (.t 75) (.c (.bool false)), none⟩ ::
          ⟨(some 6), .mv (.t 76), none⟩ ::
          []))
        .ret))))))))
theorem cd_fretworklaw11_BlendSums : Code1 Try.prog 3 77 ir_fretworklaw11_BlendSums [.t 6] := ⟨Try.call3, _, _, Try.func3, rfl, by kernel_rfl, by kernel_rfl, by kernel_rfl, by kernel_rfl⟩

set_option maxHeartbeats 4000000 in
theorem fs_BlendSums (r n1 : Int) (l1 : List (Int × Int)) (n2 : Int) (l2 : List (Int × Int)) (h1 : Ib l1) (h2 : Ib l2) : FS Try.prog 3 [.int .i64 r, VC n1 l1, VC n2 l2] (.bool true) := by
  have f1 := fs_Few n1 l1
  have f2 := fs_Few n2 l2
  have h1 := h1.take 60
  have h2 := h2.take 60
  have e1 : (l1.take 60).length ≤ 60 := by simp; omega
  have e2 : (l2.take 60).length ≤ 60 := by simp; omega
  have c1 := fs_bUnion r n1 (l1.take 60) n2 (l2.take 60) (by omega) (by omega) h1 h2
  have c2 := fs_r11Union r n1 (l1.take 60) n2 (l2.take 60) (by omega) (by omega) h1 h2
  have c3 := fs_bMeet r n1 (l1.take 60) n2 (l2.take 60) (by omega) (by omega) h1 h2
  have c4 := fs_r11Meet r n1 (l1.take 60) n2 (l2.take 60) (by omega) (by omega) h1 h2
  rw [unR_eq] at c1
  rw [meR_eq] at c3
  have u1 := len_un r n1 (l1.take 60) n2 (l2.take 60)
  have u2 := len_me r n1 (l1.take 60) n2 (l2.take 60)
  generalize ruR r (sn n1 (l1.take 60)) (sl n1 (l1.take 60)) (sn n2 (l2.take 60)) (sl n2 (l2.take 60)) = t at c1 c2 u1
  generalize rmR r (sn n1 (l1.take 60)) (sl n1 (l1.take 60)) (sn n2 (l2.take 60)) (sl n2 (l2.take 60)) = s at c3 c4 u2
  generalize l1.take 60 = a1 at *
  generalize l2.take 60 = a2 at *
  refine fs_of_cvc mixed cd_fretworklaw11_BlendSums (by simp) ?_
  repeat' (conv => whnf); first
    | ((refine Or.inl ⟨by rfl, _, f1, ?_⟩))
    | ((refine Or.inl ⟨by rfl, _, f2, ?_⟩))
    | ((refine Or.inl ⟨by rfl, _, c1, ?_⟩))
    | ((refine Or.inl ⟨by rfl, _, c2, ?_⟩))
    | ((refine Or.inl ⟨by rfl, _, c3, ?_⟩))
    | ((refine Or.inl ⟨by rfl, _, c4, ?_⟩))
    | ((refine Or.inl ⟨by rfl, _, fs_live11, ?_⟩))
    | ((refine Or.inl ⟨by rfl, _, fs_same9 t.1 t.2.1 (by omega), ?_⟩))
    | ((refine Or.inl ⟨by rfl, _, fs_same9 s.1 s.2.1 (by omega), ?_⟩))
    | ((refine Br.beq (by rfl) ?_))
    | ((refine Br.bne (by rfl) ?_))
    | (refine Br.tt ?_)
    | (refine Br.ff ?_)
    | (refine Br.dec (fun h => ?_) (fun h => ?_)) <;> try (exfalso; omega)
    | (refine Br.neg ?_)
    | (refine Br.mk (fun h => ?_) (fun h => ?_))
    | (refine And.intro rfl ?_)
    | (refine And.intro (by omega) ?_)
    | (refine ⟨_, Or.inl ⟨⟨by omega, by omega⟩, rfl⟩, ?_⟩)
    | (refine And.intro (by simp only [lens_all]; first | done | omega) ?_)
    | (refine And.intro (Nat.le_refl _) ?_)
    | fail
  all_goals first
    | exact rfl
    | (show SV.bool _ = SV.bool true; simp)

def ir_fretworklaw11_BlendMasks : IR :=
(.seq
 (.reg (⟨(some 3), .bx (.t 0), none⟩ ::
   ⟨(some 4), .bx (.t 1), none⟩ ::
   ⟨(some 6), .mv (.c (.bool false)), none⟩ ::
   []))
 (.seq
  (.seq
   (.reg (⟨(some 15), .mv (.t 2), none⟩ ::
     ⟨(some 16), .ln (.t 15), none⟩ ::
     ⟨(some 17), .bin .gtr (.t 16) (.c (.int .i64 8)), none⟩ ::
     []))
   (.cond (.t 17)
    (.seq
     (.reg (⟨(some 18), .call (.c (.fn 17 [])) [], none⟩ ::
       ⟨(some 6), .mv (.t 18), none⟩ ::
       []))
     .ret)
    .skip))
  (.seq
   (.draw (⟨(some 19), .ld 2 true (.t 3), none⟩ ::
     ⟨(some 20), .call (.c (.fn 16 [])) [(.t 19)], none⟩ ::
     ⟨(some 21), .ld 2 true (.t 4), none⟩ ::
     [])
    (⟨(some 22), .call (.c (.fn 16 [])) [(.t 21)], none⟩ ::
     ⟨none, .st 2 (.t 3) (.t 20), none⟩ ::
     ⟨none, .st 2 (.t 4) (.t 22), none⟩ ::
     []))
   (.seq
    (.reg (⟨(some 24), .ld 2 true (.t 3), none⟩ ::
      ⟨(some 25), .ld 2 true (.t 4), none⟩ ::
      ⟨(some 26), .call (.c (.fn 23 [])) [(.t 24), (.t 25)], none⟩ ::
      ⟨(some 23), .mv (.t 26), none⟩ ::
      ⟨(some 27), .ex 0 (.t 23), none⟩ ::
      ⟨(some 28), .ex 1 (.t 23), none⟩ ::
      ⟨(some 7), .al [.int .i64 0, .nils], none⟩ ::
      ⟨none, .st 2 (.t 7) (.t 27), none⟩ ::
      ⟨(some 8), .mv (.t 28), none⟩ ::
      []))
    (.seq
     (.reg (⟨(some 30), .ld 2 true (.t 3), none⟩ ::
       ⟨(some 31), .ld 2 true (.t 4), none⟩ ::
       ⟨(some 32), .call (.c (.fn 24 [])) [(.t 30), (.t 31)], none⟩ ::
       ⟨(some 29), .mv (.t 32), none⟩ ::
       ⟨(some 33), .ex 0 (.t 29), none⟩ ::
       ⟨(some 34), .ex 1 (.t 29), none⟩ ::
       ⟨(some 9), .al [.int .i64 0, .nils], none⟩ ::
       ⟨none, .st 2 (.t 9) (.t 33), none⟩ ::
       ⟨(some 10), .mv (.t 34), none⟩ ::
       []))
     (.seq
      (.reg (⟨(some 36), .ld 2 true (.t 3), none⟩ ::
        ⟨(some 37), .ld 2 true (.t 4), none⟩ ::
        ⟨(some 38), .call (.c (.fn 25 [])) [(.t 36), (.t 37)], none⟩ ::
        ⟨(some 35), .mv (.t 38), none⟩ ::
        ⟨(some 39), .ex 0 (.t 35), none⟩ ::
        ⟨(some 40), .ex 1 (.t 35), none⟩ ::
        ⟨(some 11), .al [.int .i64 0, .nils], none⟩ ::
        ⟨none, .st 2 (.t 11) (.t 39), none⟩ ::
        ⟨(some 12), .mv (.t 40), none⟩ ::
        []))
      (.seq
       (.reg (⟨(some 42), .ld 2 true (.t 3), none⟩ ::
         ⟨(some 43), .ld 2 true (.t 4), none⟩ ::
         ⟨(some 44), .call (.c (.fn 26 [])) [(.t 42), (.t 43)], none⟩ ::
         ⟨(some 41), .mv (.t 44), none⟩ ::
         ⟨(some 45), .ex 0 (.t 41), none⟩ ::
         ⟨(some 46), .ex 1 (.t 41), none⟩ ::
         ⟨(some 13), .al [.int .i64 0, .nils], none⟩ ::
         ⟨none, .st 2 (.t 13) (.t 45), none⟩ ::
         ⟨(some 14), .mv (.t 46), none⟩ ::
         []))
       (.seq
        (.draw (⟨(some 47), .call (.c (.fn 17 [])) [], none⟩ ::
          ⟨(some 48), .mv (.t 47), none⟩ ::
          ⟨(some 49), .ld 2 true (.t 3), some (48, true)⟩ ::
          ⟨(some 50), .mv (.t 2), some (48, true)⟩ ::
          ⟨(some 51), .call (.c (.fn 27 [])) [(.t 49), (.t 50), (.c (.bool false))], some (48, true)⟩ ::
          ⟨(some 52), .ld 2 true (.t 3), some (48, true)⟩ ::
          ⟨(some 53), .mv (.t 2), some (48, true)⟩ ::
          ⟨(some 54), .call (.c (.fn 28 [])) [(.t 52), (.t 53), (.c (.bool false))], some (48, true)⟩ ::
          ⟨(some 55), .call (.c (.fn 22 [])) [(.t 51), (.t 54)], some (48, true)⟩ ::
          ⟨(some 56), .pick (.t 48) (.t 55) (.c (.bool false)), none⟩ ::
          ⟨(some 57), .mv (.t 56), none⟩ ::
          ⟨(some 58), .ld 2 true (.t 3), some (57, true)⟩ ::
          ⟨(some 59), .mv (.t 2), some (57, true)⟩ ::
          ⟨(some 60), .call (.c (.fn 27 [])) [(.t 58), (.t 59), (.c (.bool true))], some (57, true)⟩ ::
          ⟨(some 61), .ld 2 true (.t 3), some (57, true)⟩ ::
          ⟨(some 62), .mv (.t 2), some (57, true)⟩ ::
          ⟨(some 63), .call (.c (.fn 28 [])) [(.t 61), (.t 62), (.c (.bool true))], some (57, true)⟩ ::
          ⟨(some 64), .call (.c (.fn 22 [])) [(.t 60), (.t 63)], some (57, true)⟩ ::
          ⟨(some 65), .pick (.t 57) (.t 64) (.c (.bool false)), none⟩ ::
          ⟨(some 66), .mv (.t 65), none⟩ ::
          ⟨(some 67), .ld 2 true (.t 7), some (66, true)⟩ ::
          ⟨(some 68), .ld 2 true (.t 9), some (66, true)⟩ ::
          ⟨(some 69), .call (.c (.fn 22 [])) [(.t 67), (.t 68)], some (66, true)⟩ ::
          ⟨(some 70), .pick (.t 66) (.t 69) (.c (.bool false)), none⟩ ::
          ⟨(some 71), .mv (.t 70), none⟩ ::
          ⟨(some 72), .mv (.t 8), some (71, true)⟩ ::
          ⟨(some 73), .mv (.t 10), some (71, true)⟩ ::
          ⟨(some 74), .bin .eql (.t 72) (.t 73), some (71, true)⟩ ::
          ⟨(some 75), .pick (.t 71) (.t 74) (.c (.bool false)), none⟩ ::
          ⟨(some 76), .mv (.t 75), none⟩ ::
          ⟨(some 77), .ld 2 true (.t 11), some (76, true)⟩ ::
          ⟨(some 78), .ld 2 true (.t 13), some (76, true)⟩ ::
          ⟨(some 79), .call (.c (.fn 22 [])) [(.t 77), (.t 78)], some (76, true)⟩ ::
          ⟨(some 80), .pick (.t 76) (.t 79) (.c (.bool false)), none⟩ ::
          ⟨(some 81), .mv (.t 80), none⟩ ::
          ⟨(some 82), .mv (.t 12), some (81, true)⟩ ::
          ⟨(some 83), .mv (.t 14), some (81, true)⟩ ::
          [])
         (⟨(some 84), .bin .eql (.t 82) (.t 83), some (81, true)⟩ ::
          ⟨(some 85), .pick (.t 81) (.t 84) (.c (.bool false)), none⟩ ::
          ⟨(some 6), .mv (.t 85), none⟩ ::
          []))
        .ret))))))))
theorem cd_fretworklaw11_BlendMasks : Code1 Try.prog 4 86 ir_fretworklaw11_BlendMasks [.t 6] := ⟨Try.call4, _, _, Try.func4, rfl, by kernel_rfl, by kernel_rfl, by kernel_rfl, by kernel_rfl⟩

set_option maxHeartbeats 4000000 in
theorem fs_BlendMasks (n1 : Int) (l1 : List (Int × Int)) (n2 : Int) (l2 : List (Int × Int)) (f : List Nat) (h1 : Ib l1) (h2 : Ib l2) (hw : Wd f) : FS Try.prog 4 [VC n1 l1, VC n2 l2, U f] (.bool true) := by
  have f1 := fs_Few n1 l1
  have f2 := fs_Few n2 l2
  have h1 := h1.take 60
  have h2 := h2.take 60
  have hul := U_len f
  have e1 : (l1.take 60).length ≤ 60 := by simp; omega
  have e2 : (l2.take 60).length ≤ 60 := by simp; omega
  have c1 := fs_bOver n1 (l1.take 60) n2 (l2.take 60) (by omega) (by omega)
  have c2 := fs_r11Over n1 (l1.take 60) n2 (l2.take 60) (by omega) (by omega)
  have c3 := fs_bBetter n1 (l1.take 60) n2 (l2.take 60) (by omega) (by omega)
  have c4 := fs_r11Better n1 (l1.take 60) n2 (l2.take 60) (by omega) (by omega)
  rw [← ovR_eq] at c2
  rw [beR_eq] at c3
  have u1 := len_ov n1 (l1.take 60) n2 (l2.take 60)
  have u2 := len_be n1 (l1.take 60) n2 (l2.take 60)
  have c5 := fs_bMask n1 (l1.take 60) f false (by omega) h1 hw
  have c6 := fs_bMask n1 (l1.take 60) f true (by omega) h1 hw
  have c7 : f.length ≤ 8 → _ := fun h => fs_r11Mask n1 (l1.take 60) f false (by omega) h1 hw (by omega)
  have c8 : f.length ≤ 8 → _ := fun h => fs_r11Mask n1 (l1.take 60) f true (by omega) h1 hw (by omega)
  have u3 := rest_le (fun x => hasI f x.1 == false) (sl n1 (l1.take 60))
  have u4 := rest_le (fun x => hasI f x.1 == true) (sl n1 (l1.take 60))
  have u5 := sl_len n1 (l1.take 60)
  generalize ovR n1 (l1.take 60) n2 (l2.take 60) = t at c1 c2 u1
  generalize rbR (sn n1 (l1.take 60)) (sl n1 (l1.take 60)) (sn n2 (l2.take 60)) (sl n2 (l2.take 60)) = s at c3 c4 u2
  generalize rest (fun x => hasI f x.1 == false) (sl n1 (l1.take 60)) = m1 at *
  generalize rest (fun x => hasI f x.1 == true) (sl n1 (l1.take 60)) = m2 at *
  generalize sn n1 (l1.take 60) = N at *
  generalize l1.take 60 = a1 at *
  generalize l2.take 60 = a2 at *
  refine fs_of_cvc mixed cd_fretworklaw11_BlendMasks (by simp) ?_
  repeat' (conv => whnf); first
    | ((refine Or.inl ⟨by rfl, _, f1, ?_⟩))
    | ((refine Or.inl ⟨by rfl, _, f2, ?_⟩))
    | ((refine Or.inl ⟨by rfl, _, c1, ?_⟩))
    | ((refine Or.inl ⟨by rfl, _, c2, ?_⟩))
    | ((refine Or.inl ⟨by rfl, _, c3, ?_⟩))
    | ((refine Or.inl ⟨by rfl, _, c4, ?_⟩))
    | ((refine Or.inl ⟨by rfl, _, c5, ?_⟩))
    | ((refine Or.inl ⟨by rfl, _, c6, ?_⟩))
    | ((refine Or.inl ⟨by rfl, _, c7 (by omega), ?_⟩))
    | ((refine Or.inl ⟨by rfl, _, c8 (by omega), ?_⟩))
    | ((refine Or.inl ⟨by rfl, _, fs_live11, ?_⟩))
    | ((refine Or.inl ⟨by rfl, _, fs_same9 t.1 t.2.1 (by omega), ?_⟩))
    | ((refine Or.inl ⟨by rfl, _, fs_same9 s.1 s.2.1 (by omega), ?_⟩))
    | ((refine Or.inl ⟨by rfl, _, fs_same9 N m1 (by omega), ?_⟩))
    | ((refine Or.inl ⟨by rfl, _, fs_same9 N m2 (by omega), ?_⟩))
    | ((refine Br.beq (by rfl) ?_))
    | ((refine Br.bne (by rfl) ?_))
    | (refine Br.tt ?_)
    | (refine Br.ff ?_)
    | (refine Br.dec (fun h => ?_) (fun h => ?_)) <;> try (exfalso; omega)
    | (refine Br.neg ?_)
    | (refine Br.mk (fun h => ?_) (fun h => ?_))
    | (refine And.intro rfl ?_)
    | (refine And.intro (by omega) ?_)
    | (refine ⟨_, Or.inl ⟨⟨by omega, by omega⟩, rfl⟩, ?_⟩)
    | (refine And.intro (by simp only [lens_all]; first | done | omega) ?_)
    | (refine And.intro (Nat.le_refl _) ?_)
    | fail
  all_goals first
    | exact rfl
    | (show SV.bool _ = SV.bool true; simp)
end
end Go.Proofs.Ytckbagpdahhiiaa
