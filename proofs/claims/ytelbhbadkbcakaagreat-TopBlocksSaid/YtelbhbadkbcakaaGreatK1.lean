/- slices.SortFunc: the library's own code, at this program. csr's triples, sorted: the library's sort as a function that writes into a slice that it is handed. -/
import Derived.Test.YtelbhbadkbcakaaGreatW1
import Derived.Shelf.SlLaysF0
import Derived.Test.YtelbhbadkbcakaaGreatJ4
import Derived.Shelf.SlSortCmp.NoneTotal
namespace Go.Proofs.YtelbhbadkbcakaaGreat
section
open Go.RowKit
attribute [local irreducible] FS FO IT HS
def renF : Go.Shelf.Ren:=⟨fun | 6=>68 | 15=>98 | 14=>97 | 28=>136 | 29=>137 | 20=>128 | 21=>129 | 22=>130 | 23=>131 | 24=>132 | 25=>133 | 26=>134 | 27=>135 | 46=>156 | 47=>157 | 48=>158 | 49=>159 | 50=>160 | 57=>167 | n=>n,fun | 22=>24 | 24=>87 | 25=>131 | 3=>3 | 39=>169 | 0=>0 | 53=>214 | 55=>91 | 4=>4 | 46=>208 | 45=>207 | 50=>180 | 5=>5 | 9=>9 | 66=>224 | 70=>228 | 76=>234 | 77=>105 | n=>n,fun n=>n⟩
theorem laysF : Go.Proofs.SlLaysF0.n6 Tryz.prog renF:={
  mixed:=by kernel_rfl,
  f6 := ⟨"slices.SortFunc[[]fretwork/api.Triple,fretwork/api.Triple]", by decide, Tryz.func68.trans (congrArg some (by kernel_rfl))⟩,
  f14 := ⟨"slices.pdqsortCmpFunc[fretwork/api.Triple]", by decide, Tryz.func97.trans (congrArg some (by kernel_rfl))⟩,
  f15:=Tryz.func98.trans (congrArg some (by kernel_rfl)),
  f20 := ⟨"slices.insertionSortCmpFunc[fretwork/api.Triple]", by decide, Tryz.func128.trans (congrArg some (by kernel_rfl))⟩,
  f21 := ⟨"slices.heapSortCmpFunc[fretwork/api.Triple]", by decide, Tryz.func129.trans (congrArg some (by kernel_rfl))⟩,
  f22 := ⟨"slices.breakPatternsCmpFunc[fretwork/api.Triple]", by decide, Tryz.func130.trans (congrArg some (by kernel_rfl))⟩,
  f23 := ⟨"slices.choosePivotCmpFunc[fretwork/api.Triple]", by decide, Tryz.func131.trans (congrArg some (by kernel_rfl))⟩,
  f24 := ⟨"slices.reverseRangeCmpFunc[fretwork/api.Triple]", by decide, Tryz.func132.trans (congrArg some (by kernel_rfl))⟩,
  f25 := ⟨"slices.partialInsertionSortCmpFunc[fretwork/api.Triple]", by decide, Tryz.func133.trans (congrArg some (by kernel_rfl))⟩,
  f26 := ⟨"slices.partitionEqualCmpFunc[fretwork/api.Triple]", by decide, Tryz.func134.trans (congrArg some (by kernel_rfl))⟩,
  f27 := ⟨"slices.partitionCmpFunc[fretwork/api.Triple]", by decide, Tryz.func135.trans (congrArg some (by kernel_rfl))⟩,
  f28:=Tryz.func136.trans (congrArg some (by kernel_rfl)),
  f29:=Tryz.func137.trans (congrArg some (by kernel_rfl)),
  f46 := ⟨"slices.siftDownCmpFunc[fretwork/api.Triple]", by decide, Tryz.func156.trans (congrArg some (by kernel_rfl))⟩,
  f47:=Tryz.func157.trans (congrArg some (by kernel_rfl)),
  f48:=Tryz.func158.trans (congrArg some (by kernel_rfl)),
  f49 := ⟨"slices.medianAdjacentCmpFunc[fretwork/api.Triple]", by decide, Tryz.func159.trans (congrArg some (by kernel_rfl))⟩,
  f50 := ⟨"slices.medianCmpFunc[fretwork/api.Triple]", by decide, Tryz.func160.trans (congrArg some (by kernel_rfl))⟩,
  f57 := ⟨"slices.order2CmpFunc[fretwork/api.Triple]", by decide, Tryz.func167.trans (congrArg some (by kernel_rfl))⟩,
  t0:=Tryz.underlying0,
  a0:=Tryz.isAgg0,
  z0:=Tryz.sizeOf0,
  v0:=Tryz.zeroValue0,
  t3:=Tryz.underlying3,
  a3:=Tryz.isAgg3,
  z3:=Tryz.sizeOf3,
  v3:=Tryz.zeroValue3,
  t4:=Tryz.underlying4,
  a4:=Tryz.isAgg4,
  z4:=Tryz.sizeOf4,
  v4:=Tryz.zeroValue4,
  t5:=Tryz.underlying5,
  a5:=Tryz.isAgg5,
  z5:=Tryz.sizeOf5,
  v5:=Tryz.zeroValue5,
  t9:=Tryz.underlying9,
  a9:=Tryz.isAgg9,
  z9:=Tryz.sizeOf9,
  v9:=Tryz.zeroValue9,
  t22:=Tryz.underlying24,
  a22:=Tryz.isAgg24,
  z22:=Tryz.sizeOf24,
  v22:=Tryz.zeroValue24,
  t25:=Tryz.underlying131,
  a25:=Tryz.isAgg131,
  z25:=Tryz.sizeOf131,
  v25:=Tryz.zeroValue131,
  t39:=Tryz.underlying169,
  a39:=Tryz.isAgg169,
  z39:=Tryz.sizeOf169,
  v39:=Tryz.zeroValue169,
  t45:=Tryz.underlying207,
  a45:=Tryz.isAgg207,
  z45:=Tryz.sizeOf207,
  v45:=Tryz.zeroValue207,
  t46:=Tryz.underlying208,
  a46:=Tryz.isAgg208,
  z46:=Tryz.sizeOf208,
  v46:=Tryz.zeroValue208,
  t50:=Tryz.underlying180,
  a50:=Tryz.isAgg180,
  z50:=Tryz.sizeOf180,
  v50:=Tryz.zeroValue180,
  t53:=Tryz.underlying214,
  a53:=Tryz.isAgg214,
  z53:=Tryz.sizeOf214,
  v53:=Tryz.zeroValue214,
  t55:=Tryz.underlying91,
  a55:=Tryz.isAgg91,
  z55:=Tryz.sizeOf91,
  v55:=Tryz.zeroValue91,
  t66:=Tryz.underlying224,
  a66:=Tryz.isAgg224,
  z66:=Tryz.sizeOf224,
  v66:=Tryz.zeroValue224,
  t70:=Tryz.underlying228,
  a70:=Tryz.isAgg228,
  z70:=Tryz.sizeOf228,
  v70:=Tryz.zeroValue228,
  t76:=Tryz.underlying234,
  a76:=Tryz.isAgg234,
  z76:=Tryz.sizeOf234,
  v76:=Tryz.zeroValue234,
  t77:=Tryz.underlying105,
  a77:=Tryz.isAgg105,
  z77:=Tryz.sizeOf105,
  v77:=Tryz.zeroValue105 }
end
section
open Go.RowKit
attribute [local irreducible] FS FO IT HS
open Go.Sort (putRow putCells mapBlock mapBlock_congr onCells Holds HoldsK flatK putRowK SWO PermIn SortedIn)
theorem belo_exact {w w' : World} (h : Belo w.heap.size w w') : ∃ q os',w' = Go.Sort.grow (w.drewN q) os':=by
  refine ⟨w'.drawn - w.drawn,w'.heap.extract w.heap.size w'.heap.size,?_⟩
  obtain ⟨h1,h2,h3,h4,h5,h6⟩:=h
  have hd : w.drawn + (w'.drawn - w.drawn) = w'.drawn:=by omega
  have hh : w.heap ++ w'.heap.extract w.heap.size w'.heap.size = w'.heap:=by
    apply Array.ext_getElem?
    intro i
    by_cases hi : i < w.heap.size
    . rw [Array.getElem?_append_left hi]; exact (h6 i hi).symm
    . rw [Array.getElem?_append_right (by omega),Array.getElem?_extract]
      by_cases hj : i < w'.heap.size
      . rw [if_pos (by omega)]; congr 1; omega
      . rw [if_neg (by omega),Array.getElem?_eq_none (by omega)]
  obtain ⟨hp',tp',dr',os',out'⟩:=w'
  simp only at h1 h2 h3 hd hh
  subst h1 h2 h3
  simp only [Go.Sort.grow,World.drewN,hd,hh]
def encT (x : Tri) : List Value:=[.int .i64 x.1,.int .i64 x.2.1,.int .i64 x.2.2]
theorem rep_tri (w : World) (A : Nat -> Prop) (a : Tri) : Rep w A [] (.agg [.int .i64 a.1,.int .i64 a.2.1,.int .i64 a.2.2]) (.agg (encT a).toArray) :=
  .agg _ _ (encT a) rfl fun i f v h1 h2=>by
    match i with
    | 0=>cases h1; cases h2; exact .int _ _ _
    | 1=>cases h1; cases h2; exact .int _ _ _
    | 2=>cases h1; cases h2; exact .int _ _ _
    | i + 3=>cases h1
theorem ex_order (a b : Tri) (W : World) : Calls Tryz.prog 69 #[.agg (encT a).toArray,.agg (encT b).toArray] W fun e w'=>e = .returned (.int .i64 (ordT a b)) /\ ∃ q os',w' = Go.Sort.grow (W.drewN q) os':=by
  have h0:=fs_order3 a b
  unfold FS at h0
  have h:=h0.2 W (fun _=>False) [.agg (encT a).toArray,.agg (encT b).toArray] (fun _ h=>h.elim) rfl (fun i x v h1 h2=>by
    match i with
    | 0=>cases h1; cases h2; exact rep_tri _ _ _
    | 1=>cases h1; cases h2; exact rep_tri _ _ _
    | i + 2=>cases h1)
  refine h.mono ?_
  rintro e w' ⟨v,rfl,hb,hr⟩
  cases hr
  exact ⟨rfl,belo_exact hb⟩
theorem ordT_neg (a b : Tri) : ordT a b < 0 ↔ a.1 < b.1 \/ (a.1 = b.1 /\ a.2.1 < b.2.1):=by
  unfold ordT or2 cmpI
  (repeat' split) <;> omega
theorem lt_ord (a b : Tri) : ltOf ordT a b = true ↔ bel a b = true:=by
  rw [bel_iff,<- ordT_neg]
  simp [ltOf]
theorem lt_ord' (a b : Tri) : ltOf ordT a b = bel a b:=Bool.eq_iff_iff.2 (lt_ord a b)
theorem swo_ord : SWO (ltOf ordT):=by
  refine ⟨fun x=>?_,fun x y z h1 h2=>?_,fun x y z h1 h2=>?_⟩
  . rw [lt_ord',<- Bool.not_eq_true,bel_iff]; omega
  . rw [lt_ord'] at *; exact bel_tr h1 h2
  . rw [lt_ord',<- Bool.not_eq_true,bel_iff] at *; omega
def sortT (l : List Tri) : List Tri:=(Go.Sort.pdq (ltOf ordT) l.toArray 0 l.toArray.size (Go.Lib.bitLen l.toArray.size) true true).toList
theorem sortT_is (l : List Tri) : PermIn 0 l.toArray.size l.toArray (sortT l).toArray /\ SortedIn (ltOf ordT) 0 l.toArray.size (sortT l).toArray :=
  Go.Sort.pdq_sorts (ltOf ordT) swo_ord l.toArray 0 l.toArray.size (Go.Lib.bitLen l.toArray.size) true true (Nat.zero_le _) (Nat.le_refl _) (Or.inl rfl)
theorem sortT_len (l : List Tri) : (sortT l).length = l.length:=by
  have:=(sortT_is l).1.1
  simpa using this
theorem sortT_perm (l : List Tri) : (sortT l).Perm l:=by
  have h:=(sortT_is l).1
  have h2:=h.2.2
  have e1 : ((sortT l).toArray.extract 0 l.toArray.size).toList = sortT l:=by
    have:=sortT_len l
    simp [<- this]
  have e2 : (l.toArray.extract 0 l.toArray.size).toList = l:=by simp
  rw [e1,e2] at h2
  exact h2
theorem sortT_up (l : List Tri) : (sortT l).Pairwise fun a b=>bel b a = false:=by
  have h:=(sortT_is l).2
  have hl:=sortT_len l
  rw [List.pairwise_iff_getElem]
  intro i j hi hj hij
  have:=h i j (Nat.zero_le _) hij (by simpa using by omega)
  rw [lt_ord'] at this
  simpa [hi,hj] using this
theorem hs_SortT0 (H : List Blk) (k : Nat) : HS Tryz.prog 68 [.osl k 3 0 0,.fn 69 []] H (.tup []) H []:=by
  unfold HS
  refine ⟨Tryz.call68,fun w A β vs hfin hW hr=>?_⟩
  obtain ⟨v0,v1,rfl⟩ : ∃ v0 v1,vs = [v0,v1]:=by
    have h:=hr.1
    match vs,h with
    | [a,b],_=>exact ⟨a,b,rfl⟩
  have r0:=hr.2 0 _ v0 rfl rfl
  obtain ⟨p,cap,rfl⟩ : ∃ p cap,v0 = .slice p 0 cap:=by
    cases r0 with
    | oslZ=>exact ⟨_,_,rfl⟩
    | osl=>exact ⟨_,_,rfl⟩
  refine (AnyF.slices_SortFunc_none laysF p cap v1 w).mono ?_
  rintro e w' ⟨rfl,rfl⟩
  exact ⟨_,A,β,rfl,Frm.refl _ _,hfin,hW,fun _ _=>Iff.rfl,fun _ b h _=>List.mem_of_getElem? h,fun k hk' _=>rfl,Nat.le_refl _,Rep.tup _ _ _ rfl fun i f u h=>by simp at h⟩
theorem flat_at (l : List Tri) (j c : Nat) (x : Tri) (hx : l[j]? = some x) (hc : c < 3) : (flatK encT 3 l.toArray)[j * 3 + c]? = (encT x)[c]?:=by
  have hj:=(List.getElem?_eq_some_iff.1 hx).1
  have e1 : (j * 3 + c) / 3 = j:=by omega
  have e2 : (j * 3 + c) % 3 = c:=by omega
  unfold flatK
  rw [Array.getElem?_map,Array.getElem?_range,if_pos (by simp; omega),Option.map_some,e1,e2]
  have e3 : l.toArray[j]! = x:=by simp [hx]
  rw [e3]
  match c,hc with
  | 0,_=>rfl
  | 1,_=>rfl
  | 2,_=>rfl
set_option maxHeartbeats 1000000 in
theorem hs_SortT (l : List Tri) (hl : l.length <= 1000000000) (H : List Blk) (k : Nat) (hHk : H[k]? = some (.arr 3 (eds l))) : HS Tryz.prog 68 [.osl k 3 0 l.length,.fn 69 []] H (.tup []) (H.set k (.arr 3 (eds (sortT l)))) []:=by
  by_cases h0 : 0 < l.length
  . unfold HS
    refine ⟨Tryz.call68,fun w A β vs hfin hW hr=>?_⟩
    obtain ⟨v0,v1,rfl⟩ : ∃ v0 v1,vs = [v0,v1]:=by
      have h:=hr.1
      match vs,h with
      | [a,b],_=>exact ⟨a,b,rfl⟩
    have r0:=hr.2 0 _ v0 rfl rfl
    have r1:=hr.2 1 _ v1 rfl rfl
    obtain rfl : v1 = .func (.func 69) #[] #[]:=by
      cases r1 with
      | fn _ _ _ vs hl _ =>
        obtain rfl : vs = []:=List.eq_nil_of_length_eq_zero hl
        rfl
    obtain ⟨b,cap,rfl,hk,hc⟩ : ∃ b cap,v0 = .slice (some ⟨b,0,none⟩) l.length cap /\ β[k]? = some (some b) /\ l.length <= cap:=by
      generalize hn : l.length = n at r0
      cases r0 with
      | oslZ=>omega
      | osl _ _ _ _ _ b cap hk hc hs=>exact ⟨b,cap,by simp,hk,hc⟩
    obtain ⟨cs,T,hb,hcl,hcs⟩:=hW.blk k (some b) _ hk hHk
    rw [eds_len] at hcl
    have hblt : b < w.heap.size:=(hW.own k b hk).2
    have hat : ∀ j x c,l[j]? = some x -> c < 3 -> cs[j * 3 + c]? = (encT x)[c]?:=fun j x c hx hc=>by
      have he : (eds l)[j]? = some [.int .i64 x.1,.int .i64 x.2.1,.int .i64 x.2.2]:=by simp [eds,hx]
      have h3:=(hcs j _ he).2
      match c,hc with
      | 0,_=>obtain ⟨v,hv1,hv2⟩:=h3 0 _ rfl; cases hv2; exact hv1
      | 1,_=>obtain ⟨v,hv1,hv2⟩:=h3 1 _ rfl; cases hv2; exact hv1
      | 2,_=>obtain ⟨v,hv1,hv2⟩:=h3 2 _ rfl; cases hv2; exact hv1
    have hH : HoldsK encT 3 w b 0 l.toArray:=fun t ht=>by
      have ht' : t < l.length * 3:=by simpa using ht
      obtain ⟨x,hx⟩ : ∃ x,l[t / 3]? = some x:=⟨_,List.getElem?_eq_getElem (by omega)⟩
      have et : t / 3 * 3 + t % 3 = t:=by omega
      have h1:=hat (t / 3) x (t % 3) hx (by omega)
      have h2:=flat_at l (t / 3) (t % 3) x hx (by omega)
      rw [et] at h1 h2
      constructor
      . have e3 : (flatK encT 3 l.toArray)[t]! = (flatK encT 3 l.toArray)[t]'ht:=getElem!_pos (flatK encT 3 l.toArray) t ht
        have e4 : (flatK encT 3 l.toArray)[t]? = some ((flatK encT 3 l.toArray)[t]'ht):=Array.getElem?_eq_getElem ht
        rw [e4] at h2
        rw [e3,World.cell?]
        simp only [Nat.zero_add,hb]
        simp [h1,<- h2]
      . simp [World.frozen?,hb]
    have hcmp : CmpLays Tryz.prog 69 #[] encT 3 ordT b 0 l.toArray.size w:=fun m os dk hs x y=>ex_order x y _
    refine (AnyQ.slices_SortFunc_eq laysF 3 Tryz.isAgg87 Tryz.sizeOf87 encT (fun _=>rfl) (fun x v hv=>by simp [encT] at hv; rcases hv with rfl | rfl | rfl <;> rfl) ordT swo_ord 69 #[] b 0 cap l.toArray w Tryz.call69 hcmp hH hblt (by simp; omega)).mono ?_
    rintro e w' ⟨rfl,n,os,rfl⟩
    have hb' : (Go.Sort.ahead w n).heap[b]? = some (.cells cs.toArray T (0,0)):=hb
    obtain ⟨cs',hcs'⟩ : ∃ cs' : List Value,putCells id 0 (flatK encT 3 (sortT l).toArray) cs.toArray = cs'.toArray:=⟨(putCells id 0 (flatK encT 3 (sortT l).toArray) cs.toArray).toList,by simp⟩
    have hl' : cs'.length = cs.length:=by
      have:=congrArg Array.size hcs'
      simp [putCells] at this
      omega
    have hsl:=sortT_len l
    have hat' : ∀ j x c v,(sortT l)[j]? = some x -> (encT x)[c]? = some v -> cs'[j * 3 + c]? = some v:=fun j x c v hx hv=>by
      have hjl:=(List.getElem?_eq_some_iff.1 hx).1
      have hc3 : c < 3:=(List.getElem?_eq_some_iff.1 hv).1
      have e : cs'[j * 3 + c]? = (putCells id 0 (flatK encT 3 (sortT l).toArray) cs.toArray)[j * 3 + c]?:=by rw [hcs']; simp
      rw [e]
      unfold putCells
      rw [Array.getElem?_mapIdx]
      have : cs.toArray[j * 3 + c]? = some (cs[j * 3 + c]'(by omega)):=by simp
      rw [this]
      simp only [Option.map_some]
      have hsz : j * 3 + c < (flatK encT 3 (sortT l).toArray).size:=by simp; omega
      have h2:=flat_at (sortT l) j c x hx hc3
      rw [Array.getElem?_eq_getElem hsz,hv] at h2
      rw [if_pos ⟨Nat.zero_le _,by omega⟩,Nat.sub_zero,getElem!_pos (flatK encT 3 (sortT l).toArray) (j * 3 + c) hsz]
      exact h2
    have ew : putRowK encT 3 (Go.Sort.ahead w n) b 0 (Go.Sort.pdq (ltOf ordT) l.toArray 0 l.toArray.size (Go.Lib.bitLen l.toArray.size) true true) = (Go.Sort.ahead w n).setRow b cs'.toArray:=by
      rw [<- hcs']
      show putRow id (Go.Sort.ahead w n) b 0 (flatK encT 3 (sortT l).toArray) = _
      unfold putRow
      rw [mapBlock_congr (Go.Sort.ahead w n) b _ (fun _=>putCells id 0 (flatK encT 3 (sortT l).toArray) cs.toArray) fun c e f h=>by rw [hb'] at h; cases h; rfl]
      unfold mapBlock World.setRow
      refine congrArg (fun h=>{ Go.Sort.ahead w n with heap:=h }) (congrArg ((Go.Sort.ahead w n).heap.modify b) (funext fun o=>?_))
      cases o <;> rfl
    have hcur : Cur w A β 1 [] w A β H:=⟨hW,hfin,Frm.refl _ _,fun _ _=>Iff.rfl,fun _ b h _=>List.mem_of_getElem? h,fun _ _ _=>rfl,Nat.le_refl _⟩
    have c1:=hcur.below (w1:=Go.Sort.ahead w n) ⟨rfl,rfl,rfl,Nat.le_add_right _ _,Nat.le_refl _,fun _ _=>rfl⟩
    have hb2:=setRow_heap (Go.Sort.ahead w n) b _ cs'.toArray _ _ hb'
    have c2:=c1.set (blk:=.arr 3 (eds (sortT l))) hk hb' hl' ⟨_,T,hb2,by rw [eds_len,hsl]; omega,fun i x hx=>by
      simp only [eds,List.getElem?_map,Option.map_eq_some_iff] at hx
      obtain ⟨y,hy,rfl⟩:=hx
      refine ⟨rfl,fun j c hc=>?_⟩
      match j,hc with
      | 0,hc=>simp at hc; subst hc; exact ⟨_,hat' i y 0 _ hy rfl,.int _ _ _⟩
      | 1,hc=>simp at hc; subst hc; exact ⟨_,hat' i y 1 _ hy rfl,.int _ _ _⟩
      | 2,hc=>simp at hc; subst hc; exact ⟨_,hat' i y 2 _ hy rfl,.int _ _ _⟩
      | j + 3,hc=>simp at hc⟩
    have c3:=c2.below (w1:=sortWorldK encT 3 w b 0 n (Go.Sort.pdq (ltOf ordT) l.toArray 0 l.toArray.size (Go.Lib.bitLen l.toArray.size) true true) os) (by
      unfold sortWorldK
      rw [ew]
      exact ⟨rfl,rfl,rfl,Nat.le_refl _,by simp [Go.Sort.grow],fun k hk=>by simp [Go.Sort.grow,Array.getElem?_append_left hk]⟩)
    exact ⟨_,A,β,rfl,c3.frm,c3.fin,c3.rel,c3.agree,c3.fresh,fun k hk' _=>rfl,Nat.le_refl _,Rep.tup _ _ _ rfl fun i f u h=>by simp at h⟩
  . obtain rfl : l = []:=List.eq_nil_of_length_eq_zero (by omega)
    have e : sortT [] = []:=List.eq_nil_of_length_eq_zero (sortT_len [])
    rw [e]
    have hs : H.set k (.arr 3 (eds [])) = H:=by
      apply List.ext_getElem?
      intro i
      rw [List.getElem?_set]
      by_cases hki : k = i
      . subst hki
        rw [if_pos rfl,if_pos (List.getElem?_eq_some_iff.1 hHk).1,hHk]
      . rw [if_neg hki]
    rw [hs]
    exact hs_SortT0 H k
end
end Go.Proofs.YtelbhbadkbcakaaGreat
