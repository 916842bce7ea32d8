/- slices.Sort at []int: the library's own code, at this program. slices.Sort as a function that writes into a slice that it is handed. The places at which numbers are cut. -/
import Derived.Test.YtjaakpigkoakkaaG2
import Derived.Shelf.Sort.Plain
namespace Go.Proofs.Ytjaakpigkoakkaa
section
open Go.RowKit
attribute [local irreducible] FS FO IT HS

def ren189 : Go.Shelf.Ren := ⟨fun | 189 => 31 | 125 => 33 | 257 => 32 | 128 => 43 | 129 => 44 | 294 => 34 | 295 => 35 | 296 => 36 | 297 => 37 | 298 => 38 | 299 => 39 | 216 => 40 | 300 => 41 | 301 => 42 | 328 => 45 | 329 => 46 | 330 => 47 | 331 => 48 | 332 => 49 | 215 => 50 | 343 => 51 | n => n, fun | 28 => 40 | 3 => 3 | 46 => 44 | 0 => 0 | 51 => 54 | 53 => 56 | 4 => 4 | 183 => 47 | 182 => 46 | 131 => 51 | 5 => 5 | 9 => 9 | 218 => 57 | 222 => 61 | 228 => 63 | 229 => 64 | n => n, fun n => n⟩
theorem lays189 : Go.Proofs.Lays.n189 Try.prog ren189 := {
  mixed := by kernel_rfl,
  f125 := Try.func33.trans (congrArg some (by kernel_rfl)),
  f128 := Try.func43.trans (congrArg some (by kernel_rfl)),
  f129 := Try.func44.trans (congrArg some (by kernel_rfl)),
  f189 := Try.func31.trans (congrArg some (by kernel_rfl)),
  f215 := Try.func50.trans (congrArg some (by kernel_rfl)),
  f216 := Try.func40.trans (congrArg some (by kernel_rfl)),
  f257 := Try.func32.trans (congrArg some (by kernel_rfl)),
  f294 := Try.func34.trans (congrArg some (by kernel_rfl)),
  f295 := Try.func35.trans (congrArg some (by kernel_rfl)),
  f296 := Try.func36.trans (congrArg some (by kernel_rfl)),
  f297 := Try.func37.trans (congrArg some (by kernel_rfl)),
  f298 := Try.func38.trans (congrArg some (by kernel_rfl)),
  f299 := Try.func39.trans (congrArg some (by kernel_rfl)),
  f300 := Try.func41.trans (congrArg some (by kernel_rfl)),
  f301 := Try.func42.trans (congrArg some (by kernel_rfl)),
  f328 := Try.func45.trans (congrArg some (by kernel_rfl)),
  f329 := Try.func46.trans (congrArg some (by kernel_rfl)),
  f330 := Try.func47.trans (congrArg some (by kernel_rfl)),
  f331 := Try.func48.trans (congrArg some (by kernel_rfl)),
  f332 := Try.func49.trans (congrArg some (by kernel_rfl)),
  f343 := Try.func51.trans (congrArg some (by kernel_rfl)),
  t0 := Try.underlying0,
  a0 := Try.isAgg0,
  z0 := Try.sizeOf0,
  v0 := Try.zeroValue0,
  t3 := Try.underlying3,
  a3 := Try.isAgg3,
  z3 := Try.sizeOf3,
  v3 := Try.zeroValue3,
  t4 := Try.underlying4,
  a4 := Try.isAgg4,
  z4 := Try.sizeOf4,
  v4 := Try.zeroValue4,
  t5 := Try.underlying5,
  a5 := Try.isAgg5,
  z5 := Try.sizeOf5,
  v5 := Try.zeroValue5,
  t9 := Try.underlying9,
  a9 := Try.isAgg9,
  z9 := Try.sizeOf9,
  v9 := Try.zeroValue9,
  t28 := Try.underlying40,
  a28 := Try.isAgg40,
  z28 := Try.sizeOf40,
  v28 := Try.zeroValue40,
  t46 := Try.underlying44,
  a46 := Try.isAgg44,
  z46 := Try.sizeOf44,
  v46 := Try.zeroValue44,
  t51 := Try.underlying54,
  a51 := Try.isAgg54,
  z51 := Try.sizeOf54,
  v51 := Try.zeroValue54,
  t53 := Try.underlying56,
  a53 := Try.isAgg56,
  z53 := Try.sizeOf56,
  v53 := Try.zeroValue56,
  t131 := Try.underlying51,
  a131 := Try.isAgg51,
  z131 := Try.sizeOf51,
  v131 := Try.zeroValue51,
  t182 := Try.underlying46,
  a182 := Try.isAgg46,
  z182 := Try.sizeOf46,
  v182 := Try.zeroValue46,
  t183 := Try.underlying47,
  a183 := Try.isAgg47,
  z183 := Try.sizeOf47,
  v183 := Try.zeroValue47,
  t218 := Try.underlying57,
  a218 := Try.isAgg57,
  z218 := Try.sizeOf57,
  v218 := Try.zeroValue57,
  t222 := Try.underlying61,
  a222 := Try.isAgg61,
  z222 := Try.sizeOf61,
  v222 := Try.zeroValue61,
  t228 := Try.underlying63,
  a228 := Try.isAgg63,
  z228 := Try.sizeOf63,
  v228 := Try.zeroValue63,
  t229 := Try.underlying64,
  a229 := Try.isAgg64,
  z229 := Try.sizeOf64,
  v229 := Try.zeroValue64 }
end
section
open Go.RowKit
attribute [local irreducible] FS FO IT HS
open Go.Sort (putRow putCells mapBlock mapBlock_congr onCells Holds)

def zl (l : List Int) : List (List SV) := l.map fun x => [.int .i64 x]
theorem zl_len (l : List Int) : (zl l).length = l.length := by simp [zl]
theorem zl_at {l : List Int} {i : Nat} {x : Int} (h : l[i]? = some x) : (zl l)[i]? = some [.int .i64 x] := by simp [zl, h]
theorem zl_get {l : List Int} {i : Nat} {x : List SV} (h : (zl l)[i]? = some x) : ∃ y, l[i]? = some y ∧ x = [.int .i64 y] := by
  simp only [zl, List.getElem?_map, Option.map_eq_some_iff] at h
  obtain ⟨y, h1, h2⟩ := h
  exact ⟨y, h1, h2.symm⟩
/-- Sorted. -/
def srt (l : List Int) : List Int := l.mergeSort fun x y => decide (x ≤ y)
theorem srt_len (l : List Int) : (srt l).length = l.length := List.length_mergeSort _
theorem srt_mem (l : List Int) (x : Int) : x ∈ srt l ↔ x ∈ l := List.mem_mergeSort
theorem srt_up (l : List Int) : (srt l).Pairwise fun x y => x ≤ y := by
  have := List.pairwise_mergeSort (le := fun x y => decide (x ≤ y)) (fun a b c h1 h2 => by simp at *; omega) (fun a b => by simp; omega) l
  exact this.imp fun h => by simpa using h

theorem putRow_set {w : World} {b : Nat} {cs : Array Value} {T : TypeId} {fr : Nat × Nat} (hb : w.heap[b]? = some (.cells cs T fr)) (d : Array Int) : putRow (Value.int .i64) w b 0 d = w.setRow b (putCells (Value.int .i64) 0 d cs) := by
  unfold putRow
  rw [mapBlock_congr w b _ (fun _ => putCells (Value.int .i64) 0 d cs) fun c e f h => by rw [hb] at h; cases h; rfl]
  unfold mapBlock World.setRow
  refine congrArg (fun h => { w with heap := h }) (congrArg (w.heap.modify b) (funext fun o => ?_))
  cases o <;> rfl
theorem below_grow (w : World) (os : Array Obj) : Below w.heap.size w (Go.Sort.grow w os) :=
  ⟨rfl, rfl, rfl, by simp [Go.Sort.grow], fun k hk => by simp [Go.Sort.grow, Array.getElem?_append_left hk]⟩
theorem below_ahead (w : World) (n : Nat) : Below w.heap.size w (Go.Sort.ahead w n) := ⟨rfl, rfl, rfl, Nat.le_refl _, fun _ _ => rfl⟩

set_option maxHeartbeats 1000000 in
theorem hs_Sort (l : List Int) (h0 : 0 < l.length) (hl : l.length ≤ 1000000000) : HS Try.prog 31 [.osl 0 1 0 l.length] [.arr 1 (zl l)] (.tup []) [.arr 1 (zl (srt l))] [] := by
  unfold HS
  refine ⟨Try.call31, fun w A β vs hfin hW hr => ?_⟩
  obtain ⟨v0, rfl⟩ : ∃ v0, vs = [v0] := by
    have h := hr.1
    match vs, h with
    | [a], _ => exact ⟨a, rfl⟩
  have r0 := hr.2 0 _ v0 rfl rfl
  obtain ⟨b, cap, rfl, hk, hc⟩ : ∃ b cap, v0 = .slice (some ⟨b, 0, none⟩) l.length cap ∧ β[0]? = some (some b) ∧ l.length ≤ cap := by
    generalize hn : l.length = n at r0
    cases r0 with
    | oslZ => omega
    | osl _ _ _ _ _ b cap hk hc hs => exact ⟨b, cap, by simp, hk, hc⟩
  obtain ⟨cs, T, hb, hcl, hcs⟩ := hW.blk 0 (some b) _ hk rfl
  rw [zl_len, Nat.mul_one] at hcl
  have hblt : b < w.heap.size := (hW.own 0 b hk).2
  have hat : ∀ j, j < l.length → cs[j]? = some (.int .i64 l[j]!) := fun j hj => by
    obtain ⟨x, hx⟩ : ∃ x, l[j]? = some x := ⟨_, List.getElem?_eq_getElem hj⟩
    obtain ⟨v, hv1, hv2⟩ := (hcs j _ (zl_at hx)).2 0 _ rfl
    cases hv2
    rw [show j * 1 + 0 = j by omega] at hv1
    rw [hv1, List.getElem!_eq_getElem?_getD, hx]
    rfl
  have hH : Holds (Value.int .i64) w b 0 l.toArray := fun j hj => by
    have hj' : j < l.length := by simpa using hj
    have := hat j hj'
    constructor
    · simp [World.cell?, hb, this]
    · simp [World.frozen?, hb]
  refine (Any.slices_Sort_int lays189 b 0 cap l w hH hblt (by omega)).mono ?_
  rintro e w' ⟨rfl, n, os, rfl⟩
  have hb' : (Go.Sort.ahead w n).heap[b]? = some (.cells cs.toArray T (0, 0)) := hb
  obtain ⟨cs', hcs'⟩ : ∃ cs' : List Value, putCells (Value.int .i64) 0 (srt l).toArray cs.toArray = cs'.toArray := ⟨(putCells (Value.int .i64) 0 (srt l).toArray cs.toArray).toList, by simp⟩
  have hl' : cs'.length = cs.length := by
    have := congrArg Array.size hcs'
    simp [putCells] at this
    omega
  have hat' : ∀ j x, (srt l)[j]? = some x → cs'[j]? = some (Value.int .i64 x) := fun j x hx => by
    have hjl := (List.getElem?_eq_some_iff.1 hx).1
    rw [srt_len] at hjl
    have e : cs'[j]? = (putCells (Value.int .i64) 0 (srt l).toArray cs.toArray)[j]? := by rw [hcs']; simp
    rw [e]
    unfold putCells
    rw [Array.getElem?_mapIdx]
    have : cs.toArray[j]? = some (cs[j]'(by omega)) := by simp
    rw [this]
    simp only [Option.map_some]
    rw [if_pos ⟨Nat.zero_le _, by simp [srt_len]; omega⟩, Nat.sub_zero]
    congr 2
    simp [hx]
  have ew : putRow (Value.int .i64) (Go.Sort.ahead w n) b 0 (l.mergeSort fun x y => decide (x ≤ y)).toArray = (Go.Sort.ahead w n).setRow b cs'.toArray := (putRow_set hb' _).trans (by rw [← hcs']; rfl)
  rw [ew]
  have hcur : Cur w A β 1 [] w A β [.arr 1 (zl l)] := ⟨hW, hfin, Frm.refl _ _, fun _ _ => Iff.rfl, fun _ b h _ => List.mem_of_getElem? h, fun _ _ _ => rfl, Nat.le_refl _⟩
  have c1 := hcur.below (below_ahead w n)
  have hb2 := setRow_heap (Go.Sort.ahead w n) b _ cs'.toArray _ _ hb'
  have c2 := c1.set (blk := .arr 1 (zl (srt l))) hk hb' hl' ⟨_, T, hb2, by rw [zl_len, srt_len]; omega, fun i x hx => by
    obtain ⟨y, hy, rfl⟩ := zl_get hx
    refine ⟨rfl, fun j c hc => ?_⟩
    match j, hc with
    | 0, hc =>
      simp at hc
      subst hc
      exact ⟨_, by rw [show i * 1 + 0 = i by omega]; exact hat' i y hy, .int _ _ _⟩
    | j + 1, hc => simp at hc⟩
  have c3 := c2.below (below_grow _ os)
  exact ⟨_, A, β, rfl, c3.frm, c3.fin, c3.rel, c3.agree, c3.fresh, fun k hk' _ => rfl, Nat.le_refl _, Rep.tup _ _ _ rfl fun i f u h => by simp at h⟩
end
section
open Go.RowKit
attribute [local irreducible] FS FO IT HS

/-- Where the first k parts end. -/
def lwL (n r : Int) (k : Nat) : List Int := (List.range k).map fun (i : Nat) => lowI n r ((i : Int) + 1)
theorem lwL_len (n r : Int) (k : Nat) : (lwL n r k).length = k := by simp [lwL]
theorem lwL_succ (n r : Int) (k : Nat) : lwL n r (k + 1) = lwL n r k ++ [lowI n r ((k : Int) + 1)] := by simp [lwL, List.range_succ]
theorem zl_append (l m : List Int) : zl (l ++ m) = zl l ++ zl m := by simp [zl]
def allL (n r c : Int) : List Int := lwL n r r.toNat ++ lwL n c c.toNat
def cutL (n r c : Int) : List Int := ysL 0 (srt (allL n r c))

def ir_part_cuts_1 : IR :=
(.seq (.reg (⟨(some 5), .mv (.c (.nils)), none⟩ :: [])) (.seq (.seq (.reg (⟨(some 11), .ld 1 false (.t 1), none⟩ ::⟨(some 12), .mv (.c (.int .i64 0)), none⟩ :: [])) (.block 0 (.loop (.seq (.reg (⟨(some 13), .bin .lss (.t 12) (.t 11), none⟩ :: [])) (.seq (.cond (.t 13) .skip (.exit 0)) (.seq (.block 1 (.seq (.reg (⟨(some 14), .mv (.t 12), none⟩ ::⟨(some 6), .mv (.t 14), none⟩ :: [])) (.reg (⟨(some 15), .mv (.t 5), none⟩ ::⟨(some 16), .ld 1 false (.t 2), none⟩ ::⟨(some 17), .ld 1 false (.t 1), none⟩ ::⟨(some 18), .mv (.t 6), none⟩ ::⟨(some 19), .bin .add (.t 18) (.c (.int .i64 1)), none⟩ ::⟨(some 20), .call (.c (.fn 9 [])) [(.t 16), (.t 17), (.t 19)], none⟩ ::⟨(some 21), .bsl 1 1 [.int .i64 0] [(0, (.t 20))], none⟩ ::⟨(some 22), .ap 1 8 (.t 15) (.t 21), none⟩ ::⟨(some 5), .mv (.t 22), none⟩ :: [])))) (.reg (⟨(some 23), .bin .add (.t 12) (.c (.int .i64 1)), none⟩ ::⟨(some 12), .mv (.t 23), none⟩ :: [])))))))) (.seq (.seq (.reg (⟨(some 24), .ld 1 false (.t 3), none⟩ ::⟨(some 25), .mv (.c (.int .i64 0)), none⟩ :: [])) (.block 2 (.loop (.seq (.reg (⟨(some 26), .bin .lss (.t 25) (.t 24), none⟩ :: [])) (.seq (.cond (.t 26) .skip (.exit 2)) (.seq (.block 3 (.seq (.reg (⟨(some 27), .mv (.t 25), none⟩ ::⟨(some 7), .mv (.t 27), none⟩ :: [])) (.reg (⟨(some 28), .mv (.t 5), none⟩ ::⟨(some 29), .ld 1 false (.t 2), none⟩ ::⟨(some 30), .ld 1 false (.t 3), none⟩ ::⟨(some 31), .mv (.t 7), none⟩ ::⟨(some 32), .bin .add (.t 31) (.c (.int .i64 1)), none⟩ ::⟨(some 33), .call (.c (.fn 9 [])) [(.t 29), (.t 30), (.t 32)], none⟩ ::⟨(some 34), .bsl 1 1 [.int .i64 0] [(0, (.t 33))], none⟩ ::⟨(some 35), .ap 1 8 (.t 28) (.t 34), none⟩ ::⟨(some 5), .mv (.t 35), none⟩ :: [])))) (.reg (⟨(some 36), .bin .add (.t 25) (.c (.int .i64 1)), none⟩ ::⟨(some 25), .mv (.t 36), none⟩ :: [])))))))) (.seq (.reg (⟨(some 37), .mv (.t 5), none⟩ ::⟨(some 38), .call (.c (.fn 31 [])) [(.t 37)], none⟩ :: [])) (.seq (.reg (⟨(some 8), .mv (.c (.int .i64 0)), none⟩ :: [])) (.seq (.reg (⟨(some 39), .mv (.t 5), none⟩ ::⟨(some 40), .ln (.t 39), none⟩ ::⟨(some 41), .mv (.c (.int .i64 0)), none⟩ :: [])) (.block 4 (.loop (.seq (.reg (⟨(some 42), .bin .lss (.t 41) (.t 40), none⟩ :: [])) (.seq (.cond (.t 42) .skip (.exit 4)) (.seq (.block 5 (.seq (.reg (⟨(some 43), .ia 1 (.t 39) (.t 41), none⟩ ::⟨(some 44), .ld 1 false (.t 43), none⟩ ::⟨(some 10), .mv (.t 44), none⟩ :: [])) (.seq (.seq (.reg (⟨(some 45), .mv (.t 10), none⟩ ::⟨(some 46), .mv (.t 8), none⟩ ::⟨(some 47), .bin .gtr (.t 45) (.t 46), none⟩ ::⟨(some 48), .mv (.t 47), none⟩ ::⟨(some 49), .mv (.t 0), some (48, true)⟩ ::⟨(some 50), .mv (.t 10), some (48, true)⟩ ::⟨(some 51), .call (.t 49) [(.t 50)], some (48, true)⟩ ::⟨(some 52), .un .not (.t 51), some (48, true)⟩ ::⟨(some 53), .pick (.t 48) (.t 52) (.c (.bool false)), none⟩ :: [])) (.cond (.t 53) .ret .skip)) (.reg (⟨(some 54), .mv (.t 10), none⟩ ::⟨(some 8), .mv (.t 54), none⟩ :: []))))) (.reg (⟨(some 55), .bin .add (.t 41) (.c (.int .i64 1)), none⟩ ::⟨(some 41), .mv (.t 55), none⟩ :: [])))))))))))))
theorem cd_part_cuts_1 : Code1 Try.prog 30 56 ir_part_cuts_1 [] := ⟨Try.call30, _, _, Try.func30, rfl, by kernel_rfl, by kernel_rfl, by kernel_rfl, by kernel_rfl⟩

set_option maxHeartbeats 8000000 in
theorem it_cuts (n r c : Int) (hr : mayB n r = true) (hc : mayB n c = true) : IT Try.prog 30 [.box [.int .i64 r] 0, .box [.int .i64 n] 0, .box [.int .i64 c] 0] [] (zl (cutL n r c)) := by
  refine it_of_cvc mixed cd_part_cuts_1 (ks := []) (by simp) fun l => ?_
  obtain ⟨h0, h1, h2, h3⟩ := mayB_iff.1 hr
  obtain ⟨_, _, g2, g3⟩ := mayB_iff.1 hc
  repeat' (conv => whnf); first
    | ((refine Br.beq (by rfl) ?_))
    | ((refine Br.bne (by rfl) ?_))
    | ((refine And.intro (Or.inl (Nat.zero_le _)) ?_))
    | ((refine And.intro (show _ ≤ _ from Nat.le_of_ble_eq_true rfl) ?_))
    | ((refine And.intro (by intro y hy; simp at hy; subst hy; rfl) ?_))
    | (refine Br.tt ?_)
    | (refine Br.ff ?_)
    | (refine Br.dec (fun h => ?_) (fun h => ?_)) <;> try (exfalso; omega)
    | (refine Br.neg ?_)
    | (refine Br.mk (fun h => ?_) (fun h => ?_))
    | (refine And.intro rfl ?_)
    | (refine And.intro (by omega) ?_)
    | (refine ⟨_, Or.inl ⟨⟨by omega, by omega⟩, rfl⟩, ?_⟩)
    | (refine And.intro (by simp only [lens_all, zl_len, lwL_len]; first | done | omega) ?_)
    | (refine And.intro (Nat.le_refl _) ?_)
    | fail
  refine ⟨Nat, fun k => (k : Int) ≤ r, fun k => [(0, .raw (.func (.yield l) #[] #[])), (1, .box [.int .i64 r] 0), (2, .box [.int .i64 n] 0), (3, .box [.int .i64 c] 0), (5, .osl 0 1 0 k), (11, .int .i64 r), (12, .int .i64 (k : Int))], fun k => [.arr 1 (zl (lwL n r k))], fun _ => some 0, fun k => r.toNat - k,
    ⟨0, (show ((0 : Nat) : Int) ≤ r by omega), ⟨rfl, rfl, rfl, rfl, ⟨Nat.le_refl _, rfl, rfl⟩, rfl, rfl, trivial⟩, ⟨rfl, trivial⟩, rfl⟩, fun k hk => ?_⟩
  have hk : (k : Int) ≤ r := hk
  by_cases hkr : (k : Int) < r
  · have c1 := fs_Low n r ((k : Int) + 1)
    have hst := lwL_succ n r k
    generalize lowI n r ((k : Int) + 1) = v at *
    have hzl := zl_len (lwL n r k)
    rw [lwL_len] at hzl
    repeat' (conv => whnf); first
      | ((refine Or.inl ⟨by rfl, _, c1, ?_⟩))
      | ((refine Br.beq (by rfl) ?_))
      | ((refine Br.bne (by rfl) ?_))
      | ((refine And.intro (Or.inl (Nat.zero_le _)) ?_))
      | ((refine And.intro (show _ ≤ _ from Nat.le_of_ble_eq_true rfl) ?_))
      | ((refine And.intro (by intro y hy; simp at hy; subst hy; rfl) ?_))
      | (refine Br.tt ?_)
      | (refine Br.ff ?_)
      | (refine Br.dec (fun h => ?_) (fun h => ?_)) <;> try (exfalso; omega)
      | (refine Br.neg ?_)
      | (refine Br.mk (fun h => ?_) (fun h => ?_))
      | (refine And.intro rfl ?_)
      | (refine And.intro (by omega) ?_)
      | (refine ⟨_, Or.inl ⟨⟨by omega, by omega⟩, rfl⟩, ?_⟩)
      | (refine And.intro (by simp only [lens_all]; first | done | omega) ?_)
      | (refine And.intro (Nat.le_refl _) ?_)
      | fail
    refine ⟨k + 1, (show ((k + 1 : Nat) : Int) ≤ r by omega), (show r.toNat - (k + 1) < r.toNat - k by omega), ⟨rfl, rfl, rfl, rfl, rfl, rfl, rfl, trivial⟩, ⟨?_, trivial⟩, rfl⟩
    rw [hst]
    exact congrArg (Blk.arr 1) (zl_append _ [v]).symm
  · obtain rfl : r.toNat = k := by omega
    repeat' (conv => whnf); first
      | ((refine Br.beq (by rfl) ?_))
      | ((refine Br.bne (by rfl) ?_))
      | ((refine And.intro (Or.inl (Nat.zero_le _)) ?_))
      | ((refine And.intro (show _ ≤ _ from Nat.le_of_ble_eq_true rfl) ?_))
      | ((refine And.intro (by intro y hy; simp at hy; subst hy; rfl) ?_))
      | (refine Br.tt ?_)
      | (refine Br.ff ?_)
      | (refine Br.dec (fun h => ?_) (fun h => ?_)) <;> try (exfalso; omega)
      | (refine Br.neg ?_)
      | (refine Br.mk (fun h => ?_) (fun h => ?_))
      | (refine And.intro rfl ?_)
      | (refine And.intro (by omega) ?_)
      | (refine ⟨_, Or.inl ⟨⟨by omega, by omega⟩, rfl⟩, ?_⟩)
      | (refine And.intro (by simp only [lens_all, zl_len, lwL_len]; first | done | omega) ?_)
      | (refine And.intro (Nat.le_refl _) ?_)
      | fail
    refine ⟨Nat, fun k => (k : Int) ≤ c, fun k => [(0, .raw (.func (.yield l) #[] #[])), (1, .box [.int .i64 r] 0), (2, .box [.int .i64 n] 0), (3, .box [.int .i64 c] 0), (5, .osl 0 1 0 (r.toNat + k)), (24, .int .i64 c), (25, .int .i64 (k : Int))], fun k => [.arr 1 (zl (lwL n r r.toNat ++ lwL n c k))], fun _ => some 0, fun k => c.toNat - k,
      ⟨0, (show ((0 : Nat) : Int) ≤ c by omega), ⟨rfl, rfl, rfl, rfl, rfl, rfl, rfl, trivial⟩, ⟨?_, trivial⟩, rfl⟩, fun k hk => ?_⟩
    · show Blk.arr 1 (zl (lwL n r r.toNat)) = Blk.arr 1 (zl (lwL n r r.toNat ++ []))
      rw [List.append_nil]
    have hk : (k : Int) ≤ c := hk
    have hzl : (zl (lwL n r r.toNat ++ lwL n c k)).length = r.toNat + k := by rw [zl_len, List.length_append, lwL_len, lwL_len]
    by_cases hkc : (k : Int) < c
    · have c1 := fs_Low n c ((k : Int) + 1)
      have hst := lwL_succ n c k
      generalize lowI n c ((k : Int) + 1) = v at *
      repeat' (conv => whnf); first
        | ((refine Or.inl ⟨by rfl, _, c1, ?_⟩))
        | ((refine And.intro hzl.symm ?_))
        | ((refine Br.beq (by rfl) ?_))
        | ((refine Br.bne (by rfl) ?_))
        | ((refine And.intro (Or.inl (Nat.zero_le _)) ?_))
        | ((refine And.intro (show _ ≤ _ from Nat.le_of_ble_eq_true rfl) ?_))
        | ((refine And.intro (by intro y hy; simp at hy; subst hy; rfl) ?_))
        | (refine Br.tt ?_)
        | (refine Br.ff ?_)
        | (refine Br.dec (fun h => ?_) (fun h => ?_)) <;> try (exfalso; omega)
        | (refine Br.neg ?_)
        | (refine Br.mk (fun h => ?_) (fun h => ?_))
        | (refine And.intro rfl ?_)
        | (refine And.intro (by omega) ?_)
        | (refine ⟨_, Or.inl ⟨⟨by omega, by omega⟩, rfl⟩, ?_⟩)
        | (refine And.intro (by simp only [lens_all]; first | done | omega) ?_)
        | (refine And.intro (Nat.le_refl _) ?_)
        | fail
      refine ⟨k + 1, (show ((k + 1 : Nat) : Int) ≤ c by omega), (show c.toNat - (k + 1) < c.toNat - k by omega), ⟨rfl, rfl, rfl, rfl, rfl, rfl, rfl, trivial⟩, ⟨?_, trivial⟩, rfl⟩
      rw [hst, ← List.append_assoc]
      exact congrArg (Blk.arr 1) (zl_append _ [v]).symm
    · obtain rfl : c.toNat = k := by omega
      have el : (allL n r c).length = r.toNat + c.toNat := by unfold allL; rw [List.length_append, lwL_len, lwL_len]
      have c2 := hs_Sort (allL n r c) (by omega) (by omega)
      rw [el] at c2
      have es : (zl (srt (allL n r c))).length = r.toNat + c.toNat := by rw [zl_len, srt_len, el]
      have hsl : (srt (allL n r c)).length = r.toNat + c.toNat := by rw [srt_len, el]
      obtain ⟨S, hS⟩ : ∃ S, srt (allL n r c) = S := ⟨_, rfl⟩
      have eY : cutL n r c = ysL 0 S := by unfold cutL; rw [hS]
      rw [hS] at c2 es hsl
      rw [eY]
      unfold allL at c2
      repeat' (conv => whnf); first
        | ((refine Or.inr (Or.inr (Or.inr (Or.inl ⟨_, _, [], c2, by simp, ?_⟩)))))
        | ((refine Br.beq (by rfl) ?_))
        | ((refine Br.bne (by rfl) ?_))
        | ((refine And.intro (Or.inl (Nat.zero_le _)) ?_))
        | ((refine And.intro (show _ ≤ _ from Nat.le_of_ble_eq_true rfl) ?_))
        | ((refine And.intro (by intro y hy; simp at hy; subst hy; rfl) ?_))
        | (refine Br.tt ?_)
        | (refine Br.ff ?_)
        | (refine Br.dec (fun h => ?_) (fun h => ?_)) <;> try (exfalso; omega)
        | (refine Br.neg ?_)
        | (refine Br.mk (fun h => ?_) (fun h => ?_))
        | (refine And.intro rfl ?_)
        | (refine And.intro (by omega) ?_)
        | (refine ⟨_, Or.inl ⟨⟨by omega, by omega⟩, rfl⟩, ?_⟩)
        | (refine And.intro (by simp only [lens_all, zl_len, lwL_len]; first | done | omega) ?_)
        | (refine And.intro (Nat.le_refl _) ?_)
        | fail
      refine ⟨Nat × Int × Nat, fun ⟨q, z, m⟩ => q ≤ S.length ∧ m ≤ (ysL 0 S).length ∧ (ysL 0 S).drop m = ysL z (S.drop q), fun ⟨q, z, m⟩ => [(0, .raw (.func (.yield l) #[] #[])), (8, .int .i64 z), (39, .osl 0 1 0 (r.toNat + c.toNat)), (40, .int .i64 ((r.toNat + c.toNat : Nat) : Int)), (41, .int .i64 (q : Int))], fun _ => [.arr 1 (zl S)], fun ⟨q, z, m⟩ => some m, fun ⟨q, z, m⟩ => S.length - q,
        ⟨(0, 0, 0), ⟨Nat.zero_le _, Nat.zero_le _, rfl⟩, ⟨rfl, rfl, rfl, rfl, rfl, trivial⟩, ⟨rfl, trivial⟩, rfl⟩, ?_⟩
      rintro ⟨q, z, m⟩ ⟨q1, q2, q3⟩
      by_cases hq : q < S.length
      · obtain ⟨a, ha⟩ : ∃ a, S[q]? = some a := ⟨_, List.getElem?_eq_getElem hq⟩
        have hat : ∀ j, j = q → (zl S)[j]? = some [.int .i64 a] := fun j hj => by rw [hj]; exact zl_at ha
        have hd : S.drop q = a :: S.drop (q + 1) := by
          rw [List.drop_eq_getElem_cons hq, (List.getElem?_eq_some_iff.1 ha).2]
        rw [hd, ysL] at q3
        by_cases hza : z < a
        · rw [if_pos hza] at q3
          have hm : (ysL 0 S)[m]? = some a := by
            have := congrArg (fun l => l[0]?) q3
            simpa using this
          have hml := (List.getElem?_eq_some_iff.1 hm).1
          have hget : (zl (ysL 0 S))[m]? = some [.int .i64 a] := zl_at hm
          have hnext : (ysL 0 S).drop (m + 1) = ysL a (S.drop (q + 1)) := by
            have := congrArg (List.drop 1) q3
            rw [List.drop_drop] at this
            simpa using this
          repeat' (conv => whnf); first
            | ((refine ⟨_, hat _ (by omega), ?_⟩))
            | ((refine ⟨m, rfl, hget, ?_, ?_⟩))
            | ((refine Br.beq (by rfl) ?_))
            | ((refine Br.bne (by rfl) ?_))
            | ((refine And.intro (Or.inl (Nat.zero_le _)) ?_))
            | ((refine And.intro (show _ ≤ _ from Nat.le_of_ble_eq_true rfl) ?_))
            | ((refine And.intro (by intro y hy; simp at hy; subst hy; rfl) ?_))
            | (refine Br.tt ?_)
            | (refine Br.ff ?_)
            | (refine Br.dec (fun h => ?_) (fun h => ?_)) <;> try (exfalso; omega)
            | (refine Br.neg ?_)
            | (refine Br.mk (fun h => ?_) (fun h => ?_))
            | (refine And.intro rfl ?_)
            | (refine And.intro (by omega) ?_)
            | (refine ⟨_, Or.inl ⟨⟨by omega, by omega⟩, rfl⟩, ?_⟩)
            | (refine And.intro (by simp only [lens_all, zl_len, lwL_len]; first | done | omega) ?_)
            | (refine And.intro (Nat.le_refl _) ?_)
            | fail
          · exact ⟨(q + 1, a, m + 1), ⟨by omega, by omega, hnext⟩, (show S.length - (q + 1) < S.length - q by omega), ⟨rfl, rfl, rfl, rfl, rfl, trivial⟩, ⟨rfl, trivial⟩, rfl⟩
          · exact Or.inr rfl
        · rw [if_neg hza] at q3
          repeat' (conv => whnf); first
            | ((refine ⟨_, hat _ (by omega), ?_⟩))
            | ((refine Br.beq (by rfl) ?_))
            | ((refine Br.bne (by rfl) ?_))
            | ((refine And.intro (Or.inl (Nat.zero_le _)) ?_))
            | ((refine And.intro (show _ ≤ _ from Nat.le_of_ble_eq_true rfl) ?_))
            | ((refine And.intro (by intro y hy; simp at hy; subst hy; rfl) ?_))
            | (refine Br.tt ?_)
            | (refine Br.ff ?_)
            | (refine Br.dec (fun h => ?_) (fun h => ?_)) <;> try (exfalso; omega)
            | (refine Br.neg ?_)
            | (refine Br.mk (fun h => ?_) (fun h => ?_))
            | (refine And.intro rfl ?_)
            | (refine And.intro (by omega) ?_)
            | (refine ⟨_, Or.inl ⟨⟨by omega, by omega⟩, rfl⟩, ?_⟩)
            | (refine And.intro (by simp only [lens_all, zl_len, lwL_len]; first | done | omega) ?_)
            | (refine And.intro (Nat.le_refl _) ?_)
            | fail
          exact ⟨(q + 1, a, m), ⟨by omega, q2, q3⟩, (show S.length - (q + 1) < S.length - q by omega), ⟨rfl, rfl, rfl, rfl, rfl, trivial⟩, ⟨rfl, trivial⟩, rfl⟩
      · obtain rfl : q = S.length := by omega
        rw [List.drop_length] at q3
        have hme : m = (ysL 0 S).length := by
          have := congrArg List.length q3
          rw [List.length_drop] at this
          simp [ysL] at this
          omega
        repeat' (conv => whnf); first
          | ((refine Br.beq (by rfl) ?_))
          | ((refine Br.bne (by rfl) ?_))
          | ((refine And.intro (Or.inl (Nat.zero_le _)) ?_))
          | ((refine And.intro (show _ ≤ _ from Nat.le_of_ble_eq_true rfl) ?_))
          | ((refine And.intro (by intro y hy; simp at hy; subst hy; rfl) ?_))
          | (refine Br.tt ?_)
          | (refine Br.ff ?_)
          | (refine Br.dec (fun h => ?_) (fun h => ?_)) <;> try (exfalso; omega)
          | (refine Br.neg ?_)
          | (refine Br.mk (fun h => ?_) (fun h => ?_))
          | (refine And.intro rfl ?_)
          | (refine And.intro (by omega) ?_)
          | (refine ⟨_, Or.inl ⟨⟨by omega, by omega⟩, rfl⟩, ?_⟩)
          | (refine And.intro (by simp only [lens_all, zl_len, lwL_len]; first | done | omega) ?_)
          | (refine And.intro (Nat.le_refl _) ?_)
          | fail
        refine Or.inl ?_
        show some m = some _
        rw [zl_len, hme]
end
end Go.Proofs.Ytjaakpigkoakkaa
