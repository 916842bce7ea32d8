/- Sets of places: the functions that turn nothing. Sets of places: how many. Sets of places: one after the other. Sets of places: the places in plain words. Sets of places: ranks; what two sets come to. Sets of places: what two sets come to. Sets of places: ranks, lists, parts. Sets of places: of some places; parts. -/
import Derived.Test.YtelbhbadkbcakaaGreatW1
namespace Go.Proofs.YtelbhbadkbcakaaGreat
section
open Go.RowKit
attribute [local irreducible] FS FO IT HS
def uw (ws : List Nat) : List (List SV):=ws.map fun (x : Nat)=>[.int .u64 (x : Int)]
def U (ws : List Nat) : SV:=.slc 1 (uw ws)
def Wd (ws : List Nat) : Prop:=∀ x ∈ ws,x < 18446744073709551616
def hasN (ws : List Nat) (i : Nat) : Bool:=(ws.getD (i / 64) 0).testBit (i % 64)
def hasI (ws : List Nat) (i : Int) : Bool:=decide (0 <= i) && hasN ws i.toNat
def inW (ws : List Nat) (i : Int) : Bool:=decide (0 <= i) && decide (i / 64 < ws.length)
def wordsI (n : Int) : Nat:=((min (max n 0) 4096 + 63) / 64).toNat
theorem U_get {ws : List Nat} {k : Nat} {x : List SV} (h : (uw ws)[k]? = some x) : ∃ v : Nat,ws[k]? = some v /\ x = [.int .u64 (v : Int)]:=by
  rw [uw,List.getElem?_map,Option.map_eq_some_iff] at h
  obtain ⟨v,h1,rfl⟩:=h
  exact ⟨v,h1,rfl⟩
theorem and_pow (v k : Nat) : (v &&& 2 ^ k ≠ 0) ↔ v.testBit k = true:=by
  constructor
  . intro h
    cases hb : v.testBit k with
    | true=>rfl
    | false =>
      refine absurd (Nat.eq_of_testBit_eq fun j=>?_) h
      rw [Nat.testBit_and,Nat.testBit_two_pow,Nat.zero_testBit]
      by_cases e : k = j
      . subst e; simp [hb]
      . simp [e]
  . intro h e
    have:=congrArg (fun x=>x.testBit k) e
    simp [Nat.testBit_and,h] at this
theorem hasI_of {ws : List Nat} {i : Int} {v : Nat} (h0 : 0 <= i) (hv : ws[(i / 64).toNat]? = some v) : hasI ws i = v.testBit (i.toNat % 64):=by
  have e : i.toNat / 64 = (i / 64).toNat:=by omega
  simp [hasI,hasN,h0,List.getD_eq_getElem?_getD,e,hv]
theorem hasI_out {ws : List Nat} {i : Int} (h : inW ws i = false) : hasI ws i = false:=by
  unfold inW at h
  unfold hasI hasN
  by_cases h0 : 0 <= i
  . have h1 : ¬ i / 64 < ws.length:=by simpa [h0] using h
    have : ws.length <= i.toNat / 64:=by omega
    simp [List.getD_eq_getElem?_getD,List.getElem?_eq_none this]
  . simp [h0]
def ir_flags_within : IR :=
(.seq (.reg (⟨some 4,.mv (.c (.bool false)),none⟩::[])) (.seq (.reg (⟨some 5,.mv (.t 1),none⟩::⟨some 6,.bin .geq (.t 5) (.c (.int .i64 0)),none⟩::⟨some 7,.mv (.t 6),none⟩::⟨some 8,.mv (.t 1),some (7,true)⟩::⟨some 9,.bin .shr (.t 8) (.c (.int .u64 6)),some (7,true)⟩::⟨some 10,.mv (.t 0),some (7,true)⟩::⟨some 11,.ln (.t 10),some (7,true)⟩::⟨some 12,.bin .lss (.t 9) (.t 11),some (7,true)⟩::⟨some 13,.pick (.t 7) (.t 12) (.c (.bool false)),none⟩::⟨some 4,.mv (.t 13),none⟩::[])) .ret))
theorem cd_flags_within : Code1 Tryz.prog 102 14 ir_flags_within [.t 4]:=⟨Tryz.call102,_,_,Tryz.func102,rfl,by kernel_rfl,by kernel_rfl,by kernel_rfl,by kernel_rfl⟩
theorem fs_within (ws : List Nat) (i : Int) : FS Tryz.prog 102 [U ws,.int .i64 i] (.bool (inW ws i)):=by
  refine fs_of_cvc mixed cd_flags_within (by simp) ?_
  repeat' (conv=>whnf); first | refine Br.tt ?_ | refine Br.ff ?_ |(refine Br.dec (fun h=>?_) (fun h=>?_)) <;> try (exfalso; omega) | refine And.intro rfl ?_ |(refine And.intro (by omega) ?_) | fail
  . show SV.bool _ = SV.bool _
    simp [inW,bits_i64,uw, *]
  . show SV.bool _ = SV.bool _
    simp [inW, *]
def ir_flags_bit : IR :=
(.seq (.reg (⟨some 2,.mv (.c (.int .u64 0)),none⟩::[])) (.seq (.reg (⟨some 3,.mv (.t 0),none⟩::⟨some 4,.cv .u64 (.t 3),none⟩::⟨some 5,.bin .and (.t 4) (.c (.int .u64 63)),none⟩::⟨some 6,.bin .shl (.c (.int .u64 1)) (.t 5),none⟩::⟨some 2,.mv (.t 6),none⟩::[])) .ret))
theorem cd_flags_bit : Code1 Tryz.prog 103 7 ir_flags_bit [.t 2]:=⟨Tryz.call103,_,_,Tryz.func103,rfl,by kernel_rfl,by kernel_rfl,by kernel_rfl,by kernel_rfl⟩
theorem fs_bit (i : Int) (h0 : 0 <= i) (h1 : i <= 9223372036854775807) : FS Tryz.prog 103 [.int .i64 i] (.int .u64 ((2 ^ (i.toNat % 64) : Nat) : Int)):=by
  refine fs_of_cvc mixed cd_flags_bit (by simp) ?_
  refine ⟨i,Or.inl ⟨⟨by omega,by omega⟩,rfl⟩,?_⟩
  have e : bAnd .u64 i 63 = ((i.toNat % 64 : Nat) : Int):=by
    have:=bAnd_u64 (x:=i.toNat) (y:=63) (by omega) (by omega)
    rw [show (i.toNat &&& 63) = i.toNat % 64 from and_mask i.toNat 6] at this
    rw [<- this]; congr 1; omega
  have hlt : i.toNat % 64 < 64:=Nat.mod_lt _ (by omega)
  have hp : 2 ^ (i.toNat % 64) < 2 ^ 64:=Nat.pow_lt_pow_right (by omega) hlt
  refine And.intro rfl ?_
  show 0 <= bAnd .u64 i 63 /\ _
  rw [e]
  refine And.intro (by omega) ?_
  refine ⟨_,Or.inr rfl,?_⟩
  show SV.int _ _ = SV.int _ _
  congr 1
  rw [bits_u64,Nat.min_eq_left (by simp; omega),Int.toNat_natCast]
  have : (1 : Int) * 2 ^ (i.toNat % 64) = ((2 ^ (i.toNat % 64) : Nat) : Int):=by simp
  rw [this]
  generalize 2 ^ (i.toNat % 64) = p at hp ⊢
  exact wrap_u64_id (by omega) (by omega)
def ir_flags_words : IR :=
(.seq (.reg (⟨some 2,.mv (.c (.int .i64 0)),none⟩::[])) (.seq (.reg (⟨some 3,.mv (.t 0),none⟩::⟨some 4,.mm true [(.t 3),(.c (.int .i64 0))],none⟩::⟨some 5,.mm false [(.t 4),(.c (.int .i64 4096))],none⟩::⟨some 6,.bin .add (.t 5) (.c (.int .i64 63)),none⟩::⟨some 7,.bin .shr (.t 6) (.c (.int .u64 6)),none⟩::⟨some 2,.mv (.t 7),none⟩::[])) .ret))
theorem cd_flags_words : Code1 Tryz.prog 138 8 ir_flags_words [.t 2]:=⟨Tryz.call138,_,_,Tryz.func138,rfl,by kernel_rfl,by kernel_rfl,by kernel_rfl,by kernel_rfl⟩
theorem fs_words (n : Int) (h0 : -9223372036854775808 <= n) (h1 : n <= 9223372036854775807) : FS Tryz.prog 138 [.int .i64 n] (.int .i64 (wordsI n)):=by
  refine fs_of_cvc mixed cd_flags_words (by simp) ?_
  refine And.intro rfl ?_
  refine ⟨_,Or.inl ⟨⟨?_,?_⟩,rfl⟩,?_⟩
  . show _ <= min (max n 0) 4096 + 63
    omega
  . show min (max n 0) 4096 + 63 <= _
    omega
  refine And.intro (by omega) ?_
  show SV.int _ _ = SV.int _ _
  congr 1
  show (min (max n 0) 4096 + 63) / 64 = _
  unfold wordsI
  omega
def ir_flags_Has : IR :=
(.seq (.reg (⟨some 4,.mv (.c (.bool false)),none⟩::[])) (.seq (.draw (⟨some 5,.mv (.t 0),none⟩::⟨some 6,.mv (.t 1),none⟩::⟨some 7,.call (.c (.fn 102 [])) [(.t 5),(.t 6)],none⟩::⟨some 8,.mv (.t 7),none⟩::⟨some 9,.mv (.t 0),some (8,true)⟩::⟨some 10,.mv (.t 1),some (8,true)⟩::⟨some 11,.bin .shr (.t 10) (.c (.int .u64 6)),some (8,true)⟩::⟨some 12,.ia 1 (.t 9) (.t 11),some (8,true)⟩::⟨some 13,.ld 1 false (.t 12),some (8,true)⟩::⟨some 14,.mv (.t 1),some (8,true)⟩::⟨some 15,.call (.c (.fn 103 [])) [(.t 14)],some (8,true)⟩::[]) (⟨some 16,.bin .and (.t 13) (.t 15),some (8,true)⟩::⟨some 17,.bin .neq (.t 16) (.c (.int .u64 0)),some (8,true)⟩::⟨some 18,.pick (.t 8) (.t 17) (.c (.bool false)),none⟩::⟨some 4,.mv (.t 18),none⟩::[])) .ret))
theorem cd_flags_Has : Code1 Tryz.prog 114 19 ir_flags_Has [.t 4]:=⟨Tryz.call114,_,_,Tryz.func114,rfl,by kernel_rfl,by kernel_rfl,by kernel_rfl,by kernel_rfl⟩
theorem fs_Has (ws : List Nat) (hw : Wd ws) (i : Int) (h1 : i <= 9223372036854775807) : FS Tryz.prog 114 [U ws,.int .i64 i] (.bool (hasI ws i)):=by
  refine fs_of_cvc mixed cd_flags_Has (by simp) ?_
  refine (Or.inl ⟨rfl,_,fs_within ws i,?_⟩)
  refine ⟨fun h=>?_,fun h=>?_⟩
  . have h0 : 0 <= i:=by simp [inW] at h; exact h.1
    have h2 : i / 64 < ws.length:=by simp [inW] at h; exact h.2
    have e6 : i / 2 ^ (min (6 : Int).toNat IntKind.i64.bits) = i / 64:=rfl
    refine Br.tt (Br.tt (And.intro (by omega) (Br.tt (And.intro rfl (And.intro ?_ (And.intro ?_ fun x hx=>?_))))))
    . rw [e6]; omega
    . rw [e6]; simp [uw]; omega
    obtain ⟨v,hv,rfl⟩:=U_get hx
    rw [e6] at hv
    have hvw:=hw v (List.mem_of_getElem? hv)
    refine Br.tt (Br.tt (Br.tt ((Or.inl ⟨rfl,_,fs_bit i h0 h1,?_⟩))))
    refine Br.tt (And.intro rfl (Br.tt (And.intro rfl ?_)))
    show SV.bool (decide (bAnd .u64 (v : Int) ((2 ^ (i.toNat % 64) : Nat) : Int) ≠ 0)) = _
    have hlt : i.toNat % 64 < 64:=Nat.mod_lt _ (by omega)
    have hp : 2 ^ (i.toNat % 64) < 2 ^ 64:=Nat.pow_lt_pow_right (by omega) hlt
    rw [bAnd_u64 hvw (by simpa using hp),hasI_of h0 hv]
    congr 1
    have:=and_pow v (i.toNat % 64)
    rw [Bool.eq_iff_iff,<- this]
    simp
  . repeat refine Br.ff ?_
    show SV.bool _ = SV.bool _
    rw [hasI_out h]
def ir_flags_New : IR :=
(.seq (.reg (⟨some 2,.mv (.c (.nils)),none⟩::[])) (.seq (.reg (⟨some 3,.mv (.t 0),none⟩::⟨some 4,.call (.c (.fn 138 [])) [(.t 3)],none⟩::⟨some 5,.mk 1 8 [.int .u64 0] (.t 4) (.t 4),none⟩::⟨some 2,.mv (.t 5),none⟩::[])) .ret))
theorem cd_flags_New : Code1 Tryz.prog 101 6 ir_flags_New [.t 2]:=⟨Tryz.call101,_,_,Tryz.func101,rfl,by kernel_rfl,by kernel_rfl,by kernel_rfl,by kernel_rfl⟩
theorem fo_New (n : Int) (h0 : -9223372036854775808 <= n) (h1 : n <= 9223372036854775807) : FO Tryz.prog 101 [.int .i64 n] (.osl 0 1 0 (wordsI n)) [.arr 1 (uw (List.replicate (wordsI n) 0))]:=by
  refine fo_of_cvc mixed cd_flags_New (by simp) ?_
  have hw : wordsI n <= 64:=by unfold wordsI; omega
  refine Or.inl ⟨rfl,_,fs_words n h0 h1,?_⟩
  refine ⟨by omega,Int.le_refl _,by omega,by omega,rfl,?_⟩
  refine Or.inl ⟨[0],rfl,?_,by simp,rfl,rfl⟩
  show [some (Blk.arr 1 (List.replicate (wordsI n : Int).toNat [.int .u64 0]))] = _
  simp [uw]
theorem U_len (ws : List Nat) : (uw ws).length = ws.length:=by simp [uw]
def turn (ws : List Nat) (i : Int) (f : Nat -> Nat -> Nat) : List Nat:=if inW ws i then ws.set (i / 64).toNat (f (ws.getD (i / 64).toNat 0) (2 ^ (i.toNat % 64))) else ws
theorem turn_length (ws : List Nat) (i : Int) (f : Nat -> Nat -> Nat) : (turn ws i f).length = ws.length:=by
  unfold turn; split <;> simp
theorem frz_U {ws : List Nat} {n : Nat} (hn : n = ws.length) : SV.slc 1 (((uw ws).drop 0).take n) = U ws:=by
  subst hn
  rw [List.drop_zero,List.take_of_length_le (by rw [U_len]; exact Nat.le_refl _)]
  rfl
theorem uw_set (ws : List Nat) (k v : Nat) : (uw ws).set k [.int .u64 (v : Int)] = uw (ws.set k v):=by
  unfold uw
  rw [<- List.map_set]
end
section
open Go.RowKit
attribute [local irreducible] FS FO IT HS
end
section
open Go.RowKit
attribute [local irreducible] FS FO IT HS
def wbits (v i : Nat) : List Nat:=if v = 0 then [] else (if v % 2 = 1 then [i] else []) ++ wbits (v / 2) (i + 1)
termination_by v
decreasing_by omega
theorem wbits_zero (i : Nat) : wbits 0 i = []:=by unfold wbits; simp
theorem wbits_step {v : Nat} (hv : 0 < v) (i : Nat) : wbits v i = (if v % 2 = 1 then [i] else []) ++ wbits (v / 2) (i + 1):=by
  rw [wbits,if_neg (by omega)]
def bitsF : List Nat -> Nat -> List Nat
  | [],_=>[]
  | v::ws,k=>wbits v (64 * k) ++ bitsF ws (k + 1)
def bits (ws : List Nat) : List Nat:=bitsF ws 0
def ints (l : List Nat) : List (List SV):=l.map fun (b : Nat)=>[.int .i64 (b : Int)]
theorem ints_len (l : List Nat) : (ints l).length = l.length:=by simp [ints]
theorem ints_get {l : List Nat} {i b : Nat} {r : List Nat} (h : l.drop i = b::r) : (ints l)[i]? = some [.int .i64 (b : Int)]:=by
  have : l[i]? = some b:=by
    have:=congrArg (fun x=>x[0]?) h
    simpa using this
  simp [ints,this]
theorem drop_next {l : List Nat} {i b : Nat} {r : List Nat} (h : l.drop i = b::r) : l.drop (i + 1) = r /\ i + 1 <= l.length:=by
  have h1 : l.drop (i + 1) = (l.drop i).drop 1:=by simp
  refine ⟨by rw [h1,h]; rfl,?_⟩
  have:=congrArg List.length h
  simp at this; omega
def ir_flags_each : IR :=
(.seq (.reg (⟨some 1,.bx (.t 0),none⟩::⟨some 2,.mv (.c (.raw .nilFunc)),none⟩::[])) (.seq (.reg (⟨some 3,.fn 166 [(.t 1)],none⟩::⟨some 2,.mv (.t 3),none⟩::[])) .ret))
theorem cd_flags_each : Code1 Tryz.prog 153 4 ir_flags_each [.t 2]:=⟨Tryz.call153,_,_,Tryz.func153,rfl,by kernel_rfl,by kernel_rfl,by kernel_rfl,by kernel_rfl⟩
def ir_flags_each_1 : IR :=
(.seq (.reg (⟨some 6,.ld 1 false (.t 1),none⟩::⟨some 7,.ln (.t 6),none⟩::⟨some 8,.mv (.c (.int .i64 0)),none⟩::[])) (.block 0 (.loop (.seq (.reg (⟨some 9,.bin .lss (.t 8) (.t 7),none⟩::[])) (.seq (.cond (.t 9) .skip (.exit 0)) (.seq (.block 1 (.seq (.reg (⟨some 10,.mv (.t 8),none⟩::⟨some 11,.ia 1 (.t 6) (.t 8),none⟩::⟨some 12,.ld 1 false (.t 11),none⟩::⟨some 3,.mv (.t 10),none⟩::⟨some 4,.mv (.t 12),none⟩::[])) (.seq (.reg (⟨some 13,.mv (.t 3),none⟩::⟨some 14,.bin .shl (.t 13) (.c (.int .u64 6)),none⟩::⟨some 5,.mv (.t 14),none⟩::[])) (.block 2 (.loop (.seq (.seq (.reg (⟨some 15,.mv (.t 4),none⟩::⟨some 16,.bin .neq (.t 15) (.c (.int .u64 0)),none⟩::[])) (.cond (.t 16) .skip (.exit 2))) (.seq (.block 3 (.seq (.reg (⟨some 21,.mv (.t 4),none⟩::⟨some 22,.bin .and (.t 21) (.c (.int .u64 1)),none⟩::⟨some 23,.bin .eql (.t 22) (.c (.int .u64 1)),none⟩::⟨some 24,.mv (.t 23),none⟩::⟨some 25,.mv (.t 0),some (24,true)⟩::⟨some 26,.mv (.t 5),some (24,true)⟩::⟨some 27,.call (.t 25) [(.t 26)],some (24,true)⟩::⟨some 28,.un .not (.t 27),some (24,true)⟩::⟨some 29,.pick (.t 24) (.t 28) (.c (.bool false)),none⟩::[])) (.cond (.t 29) .ret .skip))) (.reg (⟨some 17,.mv (.t 4),none⟩::⟨some 18,.bin .shr (.t 17) (.c (.int .u64 1)),none⟩::⟨some 19,.mv (.t 5),none⟩::⟨some 20,.bin .add (.t 19) (.c (.int .i64 1)),none⟩::⟨some 4,.mv (.t 18),none⟩::⟨some 5,.mv (.t 20),none⟩::[]))))))))) (.reg (⟨some 30,.bin .add (.t 8) (.c (.int .i64 1)),none⟩::⟨some 8,.mv (.t 30),none⟩::[]))))))))
theorem cd_flags_each_1 : Code1 Tryz.prog 166 31 ir_flags_each_1 []:=⟨Tryz.call166,_,_,Tryz.func166,rfl,by kernel_rfl,by kernel_rfl,by kernel_rfl,by kernel_rfl⟩
theorem fs_each (ws : List Nat) : FS Tryz.prog 153 [U ws] (.fn 166 [.box [U ws] 0]):=by
  refine fs_of_cvc mixed cd_flags_each (by simp) ?_
  exact rfl
theorem it_each (ws : List Nat) (hw : Wd ws) (hl : ws.length <= 1000000) : IT Tryz.prog 166 [.box [U ws] 0] [] (ints (bits ws)):=by
  refine it_of_cvc mixed cd_flags_each_1 (ks:=[]) (by simp) fun l=>?_
  refine ⟨Nat × Nat,fun p=>p.1 <= ws.length /\ (bits ws).drop p.2 = bitsF (ws.drop p.1) p.1 /\ p.2 <= (bits ws).length,fun p=>[(0,.raw (.func (.yield l) #[] #[])),(6,U ws),(7,.int .i64 (ws.length : Int)),(8,.int .i64 (p.1 : Int))],fun _=>[],fun p=>some p.2,fun p=>ws.length - p.1,
    ⟨(0,0),⟨by simp,by simp [bits],by simp⟩,⟨rfl,rfl,?_,rfl,trivial⟩,trivial,rfl⟩,?_⟩
  . show SV.int .i64 ((uw ws).length : Int) = _
    rw [U_len]
  rintro ⟨k,i⟩ ⟨hk,hd,hi⟩
  simp only at hk hd hi
  refine And.intro rfl (Br.dec (fun h=>?_) (fun h=>?_))
  . have hk' : k < ws.length:=by simp only at h; omega
    refine ⟨rfl,by simp,by rw [U_len]; simp only at h ⊢; omega,fun x hx=>?_⟩
    obtain ⟨v,hv,rfl⟩:=U_get hx
    have hv' : ws[k]? = some v:=hv
    have hvw:=hw v (List.mem_of_getElem? hv)
    have hdr : ws.drop k = v::ws.drop (k + 1):=by
      rw [List.drop_eq_getElem_cons hk',(List.getElem?_eq_some_iff.1 hv').2]
    rw [hdr,bitsF] at hd
    refine And.intro (by omega) ⟨((64 * k : Nat) : Int),Or.inl ⟨⟨?_,?_⟩,?_⟩,?_⟩
    . show _ <= (k : Int) * 64; omega
    . show (k : Int) * 64 <= _; omega
    . show ((64 * k : Nat) : Int) = (k : Int) * 64; omega
    refine ⟨Nat × Nat × Nat,fun p=>∃ b,b <= 64 /\ p.1 < 2 ^ b /\ p.2.1 + b = 64 * k + 64 /\ (bits ws).drop p.2.2 = wbits p.1 p.2.1 ++ bitsF (ws.drop (k + 1)) (k + 1) /\ p.2.2 <= (bits ws).length,
      fun p=>[(0,.raw (.func (.yield l) #[] #[])),(6,U ws),(7,.int .i64 (ws.length : Int)),(8,.int .i64 (k : Int)),(4,.int .u64 (p.1 : Int)),(5,.int .i64 (p.2.1 : Int))],fun _=>[],fun p=>some p.2.2,fun p=>p.1,
      ⟨(v,64 * k,i),⟨64,by omega,by simpa using hvw,rfl,hd,hi⟩,⟨rfl,rfl,rfl,rfl,rfl,rfl,trivial⟩,trivial,rfl⟩,?_⟩
    rintro ⟨x,j,i⟩ ⟨b,hb,hxb,hjb,hd,hi⟩
    simp only at hxb hjb hd hi
    have hx64 : x < 18446744073709551616:=Nat.lt_of_lt_of_le hxb (by
      have:=Nat.pow_le_pow_right (n:=2) (by omega) hb
      simpa using this)
    have e1 : bAnd .u64 (x : Int) 1 = ((x % 2 : Nat) : Int):=by
      have:=bAnd_u64 (x:=x) (y:=1) hx64 (by omega)
      rw [show x &&& 1 = x % 2 from and_mask x 1] at this
      exact this
    refine And.intro rfl (Br.dec (fun h=>?_) (fun h=>?_))
    . have hx0 : 0 < x:=by simp at h; omega
      rw [wbits_step hx0] at hd
      have hb0 : 0 < b:=by
        rcases Nat.eq_zero_or_pos b with h | h
        . subst h; simp at hxb; omega
        . exact h
      have hxb' : x / 2 < 2 ^ (b - 1):=by
        have : 2 ^ b = 2 * 2 ^ (b - 1):=by rw [<- Nat.pow_succ',Nat.succ_eq_add_one,Nat.sub_add_cancel hb0]
        omega
      have e2 : (x : Int) / 2 ^ (min (1 : Int).toNat IntKind.u64.bits) = ((x / 2 : Nat) : Int):=by
        show (x : Int) / 2 ^ 1 = _
        omega
      -- the next place
      have next : ∀ (i' : Nat),(bits ws).drop i' = wbits (x / 2) (j + 1) ++ bitsF (ws.drop (k + 1)) (k + 1) -> i' <= (bits ws).length -> ∃ q : Nat × Nat × Nat,(∃ b,b <= 64 /\ q.1 < 2 ^ b /\ q.2.1 + b = 64 * k + 64 /\ (bits ws).drop q.2.2 = wbits q.1 q.2.1 ++ bitsF (ws.drop (k + 1)) (k + 1) /\ q.2.2 <= (bits ws).length) /\ q.1 < x /\
          SV.int .u64 ((x : Int) / 2 ^ (min (1 : Int).toNat IntKind.u64.bits)) = .int .u64 (q.1 : Int) /\ SV.int .i64 ((j : Int) + 1) = .int .i64 (q.2.1 : Int) /\ some i' = some q.2.2:=fun i' h1 h2 =>
        ⟨(x / 2,j + 1,i'),⟨b - 1,by omega,hxb',by simp only; omega,h1,h2⟩,by simp only; omega,by rw [e2],by simp,rfl⟩
      refine And.intro rfl (And.intro rfl (Br.dec (fun h=>?_) (fun h=>?_)))
      . have h1 : x % 2 = 1:=by rw [e1] at h; omega
        rw [if_pos h1] at hd
        obtain ⟨h3,h4⟩:=drop_next hd
        refine Br.tt (Br.tt ⟨rfl,rfl,rfl,i,rfl,ints_get hd,?_,?_⟩)
        . refine Br.tt (Br.ff ?_)
          refine And.intro (by omega) (And.intro rfl ⟨_,Or.inl ⟨⟨?_,?_⟩,rfl⟩,?_⟩)
          . show _ <= (j : Int) + 1; omega
          . show (j : Int) + 1 <= _; omega
          obtain ⟨q,q1,q2,q3,q4,q5⟩:=next (i + 1) h3 h4
          exact ⟨q,q1,q2,⟨rfl,rfl,rfl,rfl,q3,q4,trivial⟩,trivial,q5⟩
        . refine Br.tt (Br.tt ?_)
          exact Or.inr rfl
      . have h1 : ¬ x % 2 = 1:=by rw [e1] at h; omega
        rw [if_neg h1] at hd
        refine Br.ff (Br.ff (Br.ff (Br.ff ?_)))
        refine And.intro (by omega) (And.intro rfl ⟨_,Or.inl ⟨⟨?_,?_⟩,rfl⟩,?_⟩)
        . show _ <= (j : Int) + 1; omega
        . show (j : Int) + 1 <= _; omega
        obtain ⟨q,q1,q2,q3,q4,q5⟩:=next i (by simpa using hd) hi
        exact ⟨q,q1,q2,⟨rfl,rfl,rfl,rfl,q3,q4,trivial⟩,trivial,q5⟩
    . have hx0 : x = 0:=by simp at h; omega
      subst hx0
      rw [wbits_zero] at hd
      refine And.intro rfl ⟨_,Or.inl ⟨⟨?_,?_⟩,rfl⟩,(k + 1,i),⟨hk',by simpa using hd,hi⟩,(show ws.length - (k + 1) < ws.length - k by omega),⟨rfl,rfl,rfl,?_,trivial⟩,trivial,rfl⟩
      . show _ <= (k : Int) + 1; omega
      . show (k : Int) + 1 <= _; omega
      . show SV.int .i64 ((k : Int) + 1) = SV.int .i64 ((k + 1 : Nat) : Int)
        simp
  . have hk' : k = ws.length:=by simp only at h; omega
    rw [hk',List.drop_length] at hd
    refine Or.inl ?_
    have:=congrArg List.length hd
    simp [bitsF] at this
    show some i = some _
    rw [ints_len]; congr 1; omega
end
section
open Go.RowKit
attribute [local irreducible] FS FO IT HS
theorem wbits_eq (b : Nat) : ∀ (v i : Nat),v < 2 ^ b -> wbits v i = ((List.range b).filter fun j=>v.testBit j).map (i + ·):=by
  induction b with
  | zero =>
    intro v i hv
    have : v = 0:=by simpa using hv
    subst this; simp [wbits_zero]
  | succ b ih =>
    intro v i hv
    rw [List.range_succ_eq_map,List.filter_cons,List.filter_map,Function.comp_def]
    have e : (fun j=>v.testBit (Nat.succ j)) = fun j=>(v / 2).testBit j:=by
      funext j; exact Nat.testBit_succ v j
    rw [e]
    have h2:=ih (v / 2) (i + 1) (by rw [Nat.pow_succ] at hv; omega)
    rcases Nat.eq_zero_or_pos v with h | h
    . subst h; simp [wbits_zero]
    . rw [wbits_step h,h2,Nat.testBit_zero]
      by_cases h1 : v % 2 = 1
      . simp [h1,Nat.add_assoc,Nat.add_comm 1]
      . simp [h1,Nat.add_assoc,Nat.add_comm 1]
theorem hasN_cons_lt {v : Nat} {ws : List Nat} {j : Nat} (h : j < 64) : hasN (v::ws) j = v.testBit j:=by
  unfold hasN
  rw [Nat.div_eq_of_lt h,Nat.mod_eq_of_lt h]; rfl
theorem hasN_cons_ge (v : Nat) (ws : List Nat) (j : Nat) : hasN (v::ws) (64 + j) = hasN ws j:=by
  unfold hasN
  rw [show (64 + j) / 64 = j / 64 + 1 by omega,show (64 + j) % 64 = j % 64 by omega]; rfl
theorem bitsF_eq : ∀ (ws : List Nat) (k : Nat),Wd ws -> bitsF ws k = ((List.range (64 * ws.length)).filter (hasN ws)).map (64 * k + ·)
  | [],k,_=>by simp [bitsF]
  | v :: ws, k, h => by
    have h1:=wbits_eq 64 v (64 * k) (by simpa using h v (by simp))
    have h2:=bitsF_eq ws (k + 1) fun x hx=>h x (by simp [hx])
    rw [bitsF,h1,h2,List.length_cons,show 64 * (ws.length + 1) = 64 + 64 * ws.length by omega,List.range_add,List.filter_append,List.map_append,List.filter_map]
    have e1 : ((List.range 64).filter fun j=>v.testBit j) = (List.range 64).filter (hasN (v::ws)):=List.filter_congr fun j hj=>by
      rw [hasN_cons_lt (List.mem_range.1 hj)]
    have e : (hasN (v::ws) ∘ fun x=>64 + x) = hasN ws:=by
      funext j; exact hasN_cons_ge v ws j
    rw [e1,e,List.map_map]
    refine congrArg _ (List.map_congr_left fun j _=>?_)
    show 64 * (k + 1) + j = 64 * k + (64 + j)
    omega
theorem bits_eq {ws : List Nat} (h : Wd ws) : bits ws = (List.range (64 * ws.length)).filter (hasN ws):=by
  rw [bits,bitsF_eq ws 0 h]
  simp
theorem bits_mem {ws : List Nat} (h : Wd ws) {x : Nat} : x ∈ bits ws ↔ x < 64 * ws.length /\ hasN ws x = true:=by
  rw [bits_eq h,List.mem_filter,List.mem_range]
theorem bits_sorted {ws : List Nat} (h : Wd ws) : (bits ws).Pairwise (· < ·):=by
  rw [bits_eq h]
  exact List.Pairwise.filter _ List.pairwise_lt_range
end
section
open Go.RowKit
attribute [local irreducible] FS FO IT HS
theorem getD_lt {ws : List Nat} (h : Wd ws) (k : Nat) : ws.getD k 0 < 18446744073709551616:=by
  rw [List.getD_eq_getElem?_getD]
  cases hv : ws[k]? with
  | none=>simp
  | some v=>exact h v (List.mem_of_getElem? hv)
theorem uw_at {ws : List Nat} {j : Nat} (h : j < ws.length) : (uw ws)[j]? = some [.int .u64 ((ws.getD j 0 : Nat) : Int)]:=by
  simp [uw,List.getElem?_map,List.getElem?_eq_getElem h,List.getD_eq_getElem?_getD]
end
section
open Go.RowKit
attribute [local irreducible] FS FO IT HS
theorem or_lt {x y : Nat} (hx : x < 18446744073709551616) (hy : y < 18446744073709551616) : x ||| y < 18446744073709551616:=by
  have:=Nat.or_lt_two_pow (n:=64) (x:=x) (y:=y) (by simpa using hx) (by simpa using hy)
  simpa using this
section
variable (a b : List Nat) (ha : Wd a) (hb : Wd b) (hla : a.length <= 1000000) (hlb : b.length <= 1000000)
include ha hb hla hlb
end
end
section
open Go.RowKit
attribute [local irreducible] FS FO IT HS
theorem find_at {α : Type} {p : α -> Bool} {x : α} : ∀ {l : List α} {k : Nat},l[k]? = some x -> p x = true -> (∀ (j : Nat) (y : α),j < k -> l[j]? = some y -> p y = false) -> l.find? p = some x
  | [],k,h,_,_=>by simp at h
  | y::l,0,h,hp,_=>by simp at h; subst h; simp [List.find?,hp]
  | y :: l, k + 1, h, hp, hn => by
    have h0:=hn 0 y (by omega) rfl
    rw [List.find?_cons_of_neg (by simp [h0])]
    exact find_at (l:=l) (k:=k) (by simpa using h) hp fun j z hj hz=>hn (j + 1) z (by omega) (by simpa using hz)
def nextI (ws : List Nat) (i : Int) : Int:=match (bits ws).find? (fun (b : Nat)=>decide (i <= (b : Int))) with
  | some b=>b
  | none=>-1
theorem ints_get' {l : List Nat} {k : Nat} {x : List SV} (h : (ints l)[k]? = some x) : ∃ v : Nat,l[k]? = some v /\ x = [.int .i64 (v : Int)]:=by
  rw [ints,List.getElem?_map,Option.map_eq_some_iff] at h
  obtain ⟨v,h1,rfl⟩:=h
  exact ⟨v,h1,rfl⟩
def ir_flags_Next : IR :=
(.seq (.reg (⟨some 3,.bx (.t 1),none⟩::⟨some 4,.al [.int .i64 0],none⟩::[])) (.seq (.seq (.reg (⟨some 6,.mv (.t 0),none⟩::⟨some 7,.call (.c (.fn 153 [])) [(.t 6)],none⟩::[])) (.block 0 (.rng (.t 7) [8] (.reg (⟨some 5,.mv (.t 8),none⟩::[])) (.block 1 (.seq (.reg (⟨some 9,.mv (.t 5),none⟩::⟨some 10,.ld 1 false (.t 3),none⟩::⟨some 11,.bin .geq (.t 9) (.t 10),none⟩::[])) (.cond (.t 11) (.seq (.reg (⟨some 12,.mv (.t 5),none⟩::⟨none,.st 1 (.t 4) (.t 12),none⟩::[])) .ret) .skip)))))) (.seq (.reg (⟨none,.st 1 (.t 4) (.c (.int .i64 (-1))),none⟩::[])) .ret)))
theorem cd_flags_Next : Code1 Tryz.prog 125 13 ir_flags_Next [.c 1 false 4]:=⟨Tryz.call125,_,_,Tryz.func125,rfl,by kernel_rfl,by kernel_rfl,by kernel_rfl,by kernel_rfl⟩
theorem fs_Next (ws : List Nat) (hw : Wd ws) (hl : ws.length <= 1000000) (i : Int) : FS Tryz.prog 125 [U ws,.int .i64 i] (.int .i64 (nextI ws i)):=by
  refine fs_of_cvc mixed cd_flags_Next (by simp) ?_
  repeat' (conv=>whnf); first | fail
  refine Or.inl ⟨rfl,_,fs_each ws,?_⟩
  refine ⟨rfl,[],[],[.box [U ws] 0],[],ints (bits ws),fun _=>[.vars [.int .i64 i],.vars [.int .i64 0]],fun k=>∀ b ∈ (bits ws).take k,(b : Int) < i,it_each ws hw hl,rfl,rfl,rfl,rfl,List.nodup_nil,by simp,⟨⟨rfl,trivial⟩,⟨rfl,trivial⟩,trivial⟩,by simp,fun k x hx hok=>?_,fun hok=>?_⟩
  . obtain ⟨b,hb,rfl⟩:=ints_get' hx
    refine ⟨rfl,?_⟩
    repeat' (conv=>whnf); first |(refine Br.dec (fun h=>?_) (fun h=>?_)) <;> try (exfalso; omega) | refine And.intro rfl ?_ |(refine And.intro (by simp only [lens_all]; first | done | omega) ?_) | fail
    . show SV.int _ (b : Int) = _
      rw [nextI,find_at hb (by simpa using h) fun j x hj hx=>by simpa using hok x (List.mem_of_getElem? (i:=j) (by rw [List.getElem?_take_of_lt hj]; exact hx))]
    . refine ⟨fun c hc=>?_,⟨rfl,trivial⟩,⟨rfl,trivial⟩,trivial⟩
      rw [List.take_add_one,hb] at hc
      simp only [Option.toList_some,List.mem_append,List.mem_singleton] at hc
      rcases hc with hc | rfl
      . exact hok c hc
      . omega
  . repeat' (conv=>whnf); first | refine And.intro rfl ?_ |(refine And.intro (by simp only [lens_all]; first | done | omega) ?_) | fail
    show SV.int _ (-1) = _
    rw [ints_len] at hok
    have : (bits ws).find? (fun (b : Nat)=>decide (i <= (b : Int))) = none:=by
      rw [List.find?_eq_none]
      intro b hb
      have:=hok b (by rw [List.take_length]; exact hb)
      simp; omega
    rw [nextI,this]
def ir_flags_Right : IR :=
(.seq (.reg (⟨some 4,.mv (.c (.bool false)),none⟩::[])) (.seq (.reg (⟨some 5,.mv (.t 1),none⟩::⟨some 6,.bin .geq (.t 5) (.c (.int .i64 0)),none⟩::⟨some 7,.mv (.t 6),none⟩::⟨some 8,.mv (.t 1),some (7,true)⟩::⟨some 9,.bin .leq (.t 8) (.c (.int .i64 4096)),some (7,true)⟩::⟨some 10,.pick (.t 7) (.t 9) (.c (.bool false)),none⟩::⟨some 11,.mv (.t 10),none⟩::⟨some 12,.mv (.t 0),some (11,true)⟩::⟨some 13,.ln (.t 12),some (11,true)⟩::⟨some 14,.mv (.t 1),some (11,true)⟩::⟨some 15,.call (.c (.fn 138 [])) [(.t 14)],some (11,true)⟩::⟨some 16,.bin .eql (.t 13) (.t 15),some (11,true)⟩::⟨some 17,.pick (.t 11) (.t 16) (.c (.bool false)),none⟩::⟨some 18,.mv (.t 17),none⟩::⟨some 19,.mv (.t 0),some (18,true)⟩::⟨some 20,.mv (.t 1),some (18,true)⟩::⟨some 21,.call (.c (.fn 125 [])) [(.t 19),(.t 20)],some (18,true)⟩::⟨some 22,.bin .lss (.t 21) (.c (.int .i64 0)),some (18,true)⟩::⟨some 23,.pick (.t 18) (.t 22) (.c (.bool false)),none⟩::⟨some 4,.mv (.t 23),none⟩::[])) .ret))
theorem cd_flags_Right : Code1 Tryz.prog 152 24 ir_flags_Right [.t 4]:=⟨Tryz.call152,_,_,Tryz.func152,rfl,by kernel_rfl,by kernel_rfl,by kernel_rfl,by kernel_rfl⟩
theorem fs_Right (ws : List Nat) (hw : Wd ws) (hl : ws.length <= 1000000) (n : Int) (h0 : -9223372036854775808 <= n) (h1 : n <= 9223372036854775807) : FS Tryz.prog 152 [U ws,.int .i64 n] (.bool (decide (0 <= n) && (decide (n <= 4096) && (decide ((ws.length : Int) = wordsI n) && decide (nextI ws n < 0))))):=by
  refine fs_of_cvc mixed cd_flags_Right (by simp) ?_
  repeat' (conv=>whnf); first |(refine Or.inl ⟨rfl,_,fs_words n h0 h1,?_⟩) |(refine Or.inl ⟨rfl,_,fs_Next ws hw hl n,?_⟩) | refine Br.tt ?_ | refine Br.ff ?_ |(refine Br.dec (fun h=>?_) (fun h=>?_)) <;> try (exfalso; omega) | refine And.intro rfl ?_ | fail
  all_goals (show SV.bool _ = SV.bool _; (try simp only [U_len] at *); simp [*])
end
section
open Go.RowKit
attribute [local irreducible] FS FO IT HS
def zs (l : List Int) : List (List SV):=l.map fun x=>[.int .i64 x]
def Z (l : List Int) : SV:=.slc 1 (zs l)
theorem zs_len (l : List Int) : (zs l).length = l.length:=by simp [zs]
theorem zs_get {l : List Int} {k : Nat} {x : List SV} (h : (zs l)[k]? = some x) : ∃ v : Int,l[k]? = some v /\ x = [.int .i64 v]:=by
  rw [zs,List.getElem?_map,Option.map_eq_some_iff] at h
  obtain ⟨v,h1,rfl⟩:=h
  exact ⟨v,h1,rfl⟩
def put1 (ws : List Nat) (i : Int) : List Nat:=turn ws i (· ||| ·)
theorem put1_len (ws : List Nat) (i : Int) : (put1 ws i).length = ws.length:=turn_length ws i _
theorem put1_wd {ws : List Nat} (h : Wd ws) (i : Int) : Wd (put1 ws i):=by
  unfold put1 turn
  split
  . intro x hx
    rcases List.mem_or_eq_of_mem_set hx with hx | rfl
    . exact h x hx
    . exact or_lt (getD_lt h _) (pow_lt64 (Nat.mod_lt _ (by omega)))
  . exact h
def puts (p : Int -> Option Int) (ws : List Nat) (l : List Int) : List Nat:=l.foldl (fun ws i=>match p i with | some j=>put1 ws j | none=>ws) ws
theorem puts_len (p : Int -> Option Int) : ∀ (l : List Int) (ws : List Nat),(puts p ws l).length = ws.length
  | [],ws=>rfl
  | i :: l, ws => by
    have:=puts_len p l (match p i with | some j=>put1 ws j | none=>ws)
    simp only [puts,List.foldl_cons] at this ⊢
    rw [this]; split <;> simp [put1_len]
theorem puts_wd (p : Int -> Option Int) : ∀ (l : List Int) (ws : List Nat),Wd ws -> Wd (puts p ws l)
  | [],ws,h=>h
  | i :: l, ws, h => by
    have:=puts_wd p l (match p i with | some j=>put1 ws j | none=>ws) (by split <;> first | exact h | exact put1_wd h _)
    simpa only [puts,List.foldl_cons] using this
theorem puts_take (p : Int -> Option Int) (ws : List Nat) {l : List Int} {k : Nat} {x : Int} (h : l[k]? = some x) : puts p ws (l.take (k + 1)) = match p x with | some j=>put1 (puts p ws (l.take k)) j | none=>puts p ws (l.take k):=by
  rw [List.take_add_one,h]
  simp [puts,List.foldl_append]
theorem wd_zero (n : Nat) : Wd (List.replicate n 0):=fun x hx=>by simp at hx; omega
theorem or_place {W : List Nat} (hw : Wd W) {v : Int} (h : inW W v = true) : (uw W).set (0 + (v / 2 ^ (min (6 : Int).toNat IntKind.i64.bits)).toNat) [.int .u64 (bOr .u64 ((W.getD (0 + (v / 2 ^ (min (6 : Int).toNat IntKind.i64.bits)).toNat) 0 : Nat) : Int) ((2 ^ (v.toNat % 64) : Nat) : Int))] = uw (put1 W v):=by
  have e6 : v / 2 ^ (min (6 : Int).toNat IntKind.i64.bits) = v / 64:=rfl
  rw [e6,Nat.zero_add,bOr_u64 (getD_lt hw _) (pow_lt64 (Nat.mod_lt _ (by omega))),uw_set,put1,turn,if_pos h]
def ofN (n : Int) (l : List Int) : List Nat:=puts (fun i=>if i < n then some i else none) (List.replicate (wordsI n) 0) l
def ir_flags_Of : IR :=
(.seq (.reg (⟨some 4,.mv (.c (.nils)),none⟩::[])) (.seq (.reg (⟨some 8,.mv (.t 0),none⟩::⟨some 9,.call (.c (.fn 101 [])) [(.t 8)],none⟩::⟨some 5,.mv (.t 9),none⟩::[])) (.seq (.seq (.reg (⟨some 10,.mv (.t 1),none⟩::⟨some 11,.ln (.t 10),none⟩::⟨some 12,.mv (.c (.int .i64 0)),none⟩::[])) (.block 0 (.loop (.seq (.reg (⟨some 13,.bin .lss (.t 12) (.t 11),none⟩::[])) (.seq (.cond (.t 13) .skip (.exit 0)) (.seq (.block 1 (.seq (.reg (⟨some 14,.ia 1 (.t 10) (.t 12),none⟩::⟨some 15,.ld 1 false (.t 14),none⟩::⟨some 7,.mv (.t 15),none⟩::[])) (.seq (.reg (⟨some 16,.mv (.t 7),none⟩::⟨some 17,.mv (.t 0),none⟩::⟨some 18,.bin .lss (.t 16) (.t 17),none⟩::⟨some 19,.mv (.t 18),none⟩::⟨some 20,.mv (.t 5),some (19,true)⟩::⟨some 21,.mv (.t 7),some (19,true)⟩::⟨some 22,.call (.c (.fn 102 [])) [(.t 20),(.t 21)],some (19,true)⟩::⟨some 23,.pick (.t 19) (.t 22) (.c (.bool false)),none⟩::[])) (.cond (.t 23) (.draw (⟨some 24,.mv (.t 5),none⟩::⟨some 25,.mv (.t 7),none⟩::⟨some 26,.bin .shr (.t 25) (.c (.int .u64 6)),none⟩::⟨some 27,.ia 1 (.t 24) (.t 26),none⟩::⟨some 28,.ld 1 false (.t 27),none⟩::⟨some 29,.mv (.t 7),none⟩::⟨some 30,.call (.c (.fn 103 [])) [(.t 29)],none⟩::[]) (⟨some 31,.bin .or (.t 28) (.t 30),none⟩::⟨some 32,.ia 1 (.t 24) (.t 26),none⟩::⟨none,.st 1 (.t 32) (.t 31),none⟩::[])) .skip)))) (.reg (⟨some 33,.bin .add (.t 12) (.c (.int .i64 1)),none⟩::⟨some 12,.mv (.t 33),none⟩::[])))))))) (.seq (.reg (⟨some 34,.mv (.t 5),none⟩::⟨some 4,.mv (.t 34),none⟩::[])) .ret))))
theorem cd_flags_Of : Code1 Tryz.prog 71 35 ir_flags_Of [.t 4]:=⟨Tryz.call71,_,_,Tryz.func71,rfl,by kernel_rfl,by kernel_rfl,by kernel_rfl,by kernel_rfl⟩
theorem fs_Of (n : Int) (h0 : -9223372036854775808 <= n) (h1 : n <= 9223372036854775807) (l : List Int) (hl : l.length <= 1000000000) (hlb : ∀ x ∈ l,-9223372036854775808 <= x /\ x <= 9223372036854775807) : FS Tryz.prog 71 [.int .i64 n,Z l] (U (ofN n l)):=by
  refine fs_of_cvc mixed cd_flags_Of (by simp) ?_
  have hwl : wordsI n <= 64:=by unfold wordsI; omega
  repeat' (conv=>whnf); first | fail
  refine Or.inr (Or.inl ⟨rfl,_,_,fo_New n h0 h1,?_⟩)
  repeat' (conv=>whnf); first | fail
  refine ⟨Nat,fun k=>k <= l.length,fun k=>[(0,.int .i64 n),(5,.osl 0 1 0 (wordsI n)),(10,Z l),(11,.int .i64 l.length),(12,.int .i64 (k : Int))],fun k=>[.arr 1 (uw (ofN n (l.take k)))],fun _=>none,fun k=>l.length - k,⟨0,by omega,⟨rfl,rfl,rfl,?_,rfl,trivial⟩,⟨rfl,trivial⟩,rfl⟩,fun k hk=>?_⟩
  . show SV.int .i64 ((zs l).length : Int) = _
    rw [zs_len]
  have hk' : k <= l.length:=hk
  obtain ⟨W,hW⟩ : ∃ W,W = ofN n (l.take k):=⟨_,rfl⟩
  have hlen : W.length = wordsI n:=by rw [hW,ofN,puts_len]; simp
  have hwd : Wd W:=by rw [hW,ofN]; exact puts_wd _ _ _ (wd_zero _)
  have next : ∀ v,l[k]? = some v -> ofN n (l.take (k + 1)) = if v < n then put1 W v else W:=fun v hv=>by
    rw [ofN,puts_take _ _ hv,hW,ofN]
    by_cases h : v < n
    . rw [if_pos h,if_pos h]
    . rw [if_neg h,if_neg h]
  repeat' (conv=>whnf); first |((refine fun x hx=>?_); (obtain ⟨v,hv,rfl⟩:=zs_get hx)) | refine Br.tt ?_ | refine Br.ff ?_ |(refine Br.dec (fun h=>?_) (fun h=>?_)) <;> try (exfalso; omega) | refine And.intro rfl ?_ |(refine And.intro (by omega) ?_) |(refine ⟨_,Or.inl ⟨⟨by omega,by omega⟩,rfl⟩,?_⟩) |(refine And.intro (by simp only [U_len,zs_len]; first | done | omega) ?_) | fail
  . refine Or.inr (Or.inr (Or.inl ⟨rfl,?_,_,fs_le (fs_within W v) ⟨?_,rfl,trivial⟩,rfl,?_⟩))
    . show 0 + wordsI n <= (uw (ofN n (l.take k))).length
      rw [<- hW,U_len]; omega
    . show SV.slc 1 (((uw (ofN n (l.take k))).drop 0).take (wordsI n)) = U W
      rw [<- hW,frz_U hlen.symm]
    obtain ⟨hb1,hb2⟩:=hlb v (List.mem_of_getElem? hv)
    refine ⟨fun hin=>?_,fun hin=>?_⟩
    . have hv0 : 0 <= v:=by simp [inW] at hin; exact hin.1
      have hv1 : v / 64 < wordsI n:=by rw [<- hlen]; simp [inW] at hin; exact hin.2
      have e6 : v / 2 ^ (min (6 : Int).toNat IntKind.i64.bits) = v / 64:=rfl
      repeat' (conv=>whnf); first | refine And.intro rfl ?_ |(refine And.intro (by omega) ?_) | fail
      refine ⟨_,uw_at (by rw [<- hW]; omega),?_⟩
      repeat' (conv=>whnf); first | fail
      refine Or.inl ⟨rfl,_,fs_bit v hv0 hb2,?_⟩
      repeat' (conv=>whnf); first |(refine And.intro rfl (And.intro (by omega) (And.intro (by omega) ?_))) | refine And.intro rfl ?_ |(refine And.intro (by omega) ?_) | fail
      refine ⟨_,uw_at (by rw [<- hW]; omega),?_⟩
      repeat' (conv=>whnf); first | refine And.intro rfl ?_ |(refine ⟨_,Or.inl ⟨⟨by omega,by omega⟩,rfl⟩,?_⟩) | fail
      refine ⟨k + 1,(show k + 1 <= l.length by omega),(show l.length - (k + 1) < l.length - k by omega),⟨rfl,rfl,rfl,rfl,rfl,trivial⟩,⟨?_,trivial⟩,rfl⟩
      show Blk.arr 1 _ = Blk.arr 1 (uw (ofN n (l.take (k + 1))))
      rw [next v hv,if_pos h,<- or_place hwd hin,hW]
      rfl
    . repeat' (conv=>whnf); first | refine And.intro rfl ?_ |(refine ⟨_,Or.inl ⟨⟨by omega,by omega⟩,rfl⟩,?_⟩) | fail
      refine ⟨k + 1,(show k + 1 <= l.length by omega),(show l.length - (k + 1) < l.length - k by omega),⟨rfl,rfl,rfl,rfl,rfl,trivial⟩,⟨?_,trivial⟩,rfl⟩
      show Blk.arr 1 (uw (ofN n (l.take k))) = Blk.arr 1 (uw (ofN n (l.take (k + 1))))
      rw [next v hv,if_pos h,<- hW]
      simp [put1,turn,hin]
  . repeat' (conv=>whnf); first | fail
    refine ⟨k + 1,(show k + 1 <= l.length by omega),(show l.length - (k + 1) < l.length - k by omega),⟨rfl,rfl,rfl,rfl,rfl,trivial⟩,⟨?_,trivial⟩,rfl⟩
    show Blk.arr 1 (uw (ofN n (l.take k))) = Blk.arr 1 (uw (ofN n (l.take (k + 1))))
    rw [next v hv,if_neg h,<- hW]
  . have hkl : k = l.length:=by omega
    refine ⟨?_,?_⟩
    . show 0 + wordsI n <= (uw (ofN n (l.take k))).length
      rw [<- hW,U_len]; omega
    show SV.slc 1 (((uw (ofN n (l.take k))).drop 0).take (wordsI n)) = U (ofN n l)
    rw [<- hW,frz_U hlen.symm,hW,hkl,List.take_length]
end
end Go.Proofs.YtelbhbadkbcakaaGreat
