/- What is proved: parts of the walk and of the plain law, 1 texts in one. No condition but those each law names. -/
import Derived.Test.YtjkfondgacjpnaaGreatDoorF00
import Derived.Deep.MidRow
import Derived.Laws.CopyRow
import Derived.Laws.CopyOwn
import Derived.Test.YtjkfondgacjpnaaGreatDoorChecked
import Derived.WalkSpells
import Derived.WalkLawsBesides
import Derived.Handy
import Derived.Maps.AppendAt
namespace Go.Proofs.YtjkfondgacjpnaaGreatDoor
open Go.RowKit
def rowOf (w:World) (b:Nat):Array Value:=match w.heap[b]? with | some (.cells cs _ _)=>cs | _=>#[]
def ones (cs:Array Value):Bool:=cs.all (·.oneCell')
def sub (cs:Array Value) (o n:Nat):Array Value:=cs.extract o (o + n)
def soft (w:World) (b:Nat):Bool:=match w.heap[b]? with | some (.cells _ _ (lo,hi))=>lo == 0 && hi == 0 | _=>false
theorem soft_spec {w:World} {b:Nat} (h:soft w b=true):∃ t,w.heap[b]?=some (.cells (rowOf w b) t (0,0)):=by
 unfold soft at h
 unfold rowOf
 split at h
 ·rename_i cs t lo hi he
  simp only [Bool.and_eq_true,beq_iff_eq] at h
  obtain ⟨rfl,rfl⟩:=h
  exact ⟨t,by rw [he]⟩
 ·cases h
theorem rowOf_of {w:World} {b:Nat} {cs:Array Value} {t:TypeId} {fr:Nat × Nat} (h:w.heap[b]?=some (.cells cs t fr)):rowOf w b=cs:=by
 unfold rowOf;rw [h]
theorem soft_of {w:World} {b:Nat} {cs:Array Value} {t:TypeId} (h:w.heap[b]?=some (.cells cs t (0,0))):soft w b=true:=by
 unfold soft;rw [h];rfl
section
variable (w:World) (b b' i:Nat) (v:Value) (cs:Array Value) (t:TypeId)
theorem rowOf_cell:w.cell? ⟨b,i,none⟩=(rowOf w b)[i]?:=by
 unfold World.cell? rowOf
 simp only
 split <;> simp_all
theorem rowOf_alloc:rowOf (w.alloc (.cells cs t)) b=if b=w.heap.size then cs else rowOf w b:=by
 split
 ·rename_i h;subst h;exact rowOf_of (heap_alloc_new w _)
 ·rename_i h
  unfold rowOf
  have:(w.alloc (.cells cs t)).heap[b]?=w.heap[b]?:=by
   show (w.heap.push _)[b]?=_
   rw [Array.getElem?_push,if_neg h]
  rw [this]
theorem soft_alloc:soft (w.alloc (.cells cs t)) b=if b=w.heap.size then true else soft w b:=by
 split
 ·rename_i h;subst h;exact soft_of (heap_alloc_new w _)
 ·rename_i h
  unfold soft
  have:(w.alloc (.cells cs t)).heap[b]?=w.heap[b]?:=by
   show (w.heap.push _)[b]?=_
   rw [Array.getElem?_push,if_neg h]
  rw [this]
theorem heap_setCell_at:(w.setCell ⟨b,i,none⟩ v).heap[b']?=if b=b' then (w.heap[b']?).map (fun | .cells c e fr=>.cells (c.setIfInBounds i v) e fr | o=>o) else w.heap[b']?:=by
 simp only [World.setCell,Array.getElem?_modify]
 split <;> rfl
theorem rowOf_setCell:rowOf (w.setCell ⟨b,i,none⟩ v) b'=if b'=b then (rowOf w b).setIfInBounds i v else rowOf w b':=by
 unfold rowOf
 rw [heap_setCell_at]
 by_cases h:b=b'
 ·subst h
  simp only [if_true]
  cases hh:w.heap[b]? with
  | none=>simp
  | some o=>cases o <;> simp
 ·rw [if_neg h,if_neg (fun e=>h e.symm)]
theorem soft_setCell:soft (w.setCell ⟨b,i,none⟩ v) b'=soft w b':=by
 unfold soft
 rw [heap_setCell_at]
 by_cases h:b=b'
 ·rw [if_pos h]
  cases hh:w.heap[b']? with
  | none=>simp
  | some o=>cases o <;> simp
 ·rw [if_neg h]
theorem rowOf_setRow (h:soft w b=true):rowOf (w.setRow b cs) b'=if b'=b then cs else rowOf w b':=by
 obtain ⟨t,ht⟩:=soft_spec h
 split
 ·rename_i e;subst e;exact rowOf_of (setRow_heap w _ _ cs t _ ht)
 ·rename_i e;unfold rowOf;rw [setRow_other w b b' cs e]
theorem soft_setRow:soft (w.setRow b cs) b'=soft w b':=by
 unfold soft World.setRow
 simp only [Array.getElem?_modify]
 by_cases h:b=b'
 ·rw [if_pos h]
  cases hh:w.heap[b']? with
  | none=>simp
  | some o=>cases o <;> simp
 ·rw [if_neg h]
theorem cell_setRow (h:soft w b=true):(w.setRow b cs).cell? ⟨b',i,none⟩=if b'=b then cs[i]? else w.cell? ⟨b',i,none⟩:=by
 rw [rowOf_cell,rowOf_setRow w b b' cs h,rowOf_cell]
 split <;> rfl
theorem frozen_of_soft (h:soft w b=true):w.frozen? ⟨b,i,none⟩=false:=by
 obtain ⟨t,ht⟩:=soft_spec h
 exact frozen_of_row w b i _ t ht
theorem frozen_setRow (h:soft w b=true):(w.setRow b cs).frozen? ⟨b',i,none⟩=w.frozen? ⟨b',i,none⟩:=by
 by_cases e:b'=b
 ·subst e
  rw [frozen_of_soft w _ i h]
  exact frozen_of_soft _ _ i (by rw [soft_setRow];exact h)
 ·unfold World.frozen?
  simp only
  rw [setRow_other w b b' cs e]
variable {w}
theorem Ext.row (g:Ext w) (h:b < w.heap.size):rowOf g.val b=rowOf w b:=by unfold rowOf;rw [g.below.block b h]
theorem Ext.soft_ (g:Ext w) (h:b < w.heap.size):soft g.val b=soft w b:=by unfold soft;rw [g.below.block b h]
end
theorem rowOf_drew (w:World) (b:Nat):rowOf w.drew b=rowOf w b:=rfl
theorem soft_drew (w:World) (b:Nat):soft w.drew b=soft w b:=rfl
theorem Below.setRow_ {w0 w:World} (h:Below w0.heap.size w0 w) {b:Nat} (hb:w0.heap.size ≤ b) (cs:Array Value):Below w0.heap.size w0 (w.setRow b cs):=below_setRow h hb cs
def pb:Value→Nat | .pointer (some a)=>a.block | _=>0
def po:Value→Nat | .pointer (some a)=>a.off | _=>0
def pp:Value→Bool | .pointer (some a)=>a.spot.isNone | _=>false
def isAg:Value→Bool | .agg _=>true | _=>false
def agc:Value→Array Value | .agg cs=>cs | _=>#[]
section
variable (b o:Nat) (cs:Array Value)
@[go_sem] theorem pb_mk:pb (.pointer (some ⟨b,o,none⟩))=b:=rfl
@[go_sem] theorem po_mk:po (.pointer (some ⟨b,o,none⟩))=o:=rfl
@[go_sem] theorem pp_mk:pp (.pointer (some ⟨b,o,none⟩))=true:=rfl
@[go_sem] theorem isAg_mk:isAg (.agg cs)=true:=rfl
@[go_sem] theorem agc_mk:agc (.agg cs)=cs:=rfl
end
theorem pp_spec {p:Value} (h:pp p=true):p=.pointer (some ⟨pb p,po p,none⟩):=by
 unfold pp at h
 split at h
 ·rename_i a
  obtain ⟨b,o,s⟩:=a
  simp only [Option.isNone_iff_eq_none] at h
  subst h
  rfl
 ·cases h
theorem isAg_spec {v:Value} (h:isAg v=true):v=.agg (agc v):=by
 unfold isAg at h
 split at h
 ·rfl
 ·cases h
section
variable {P:Program}
theorem load_row {d:TypeDesc} (t:TypeId) (n:Nat) (hu:P.underlying t=some d) (hd:d.isRow=true) (hi:(P.info? t).map (·.size)=some n) (w:World) (p:Value) (hp:pp p=true) (h:po p + n ≤ (rowOf w (pb p)).size):
  (Instr.loadAt t p).run P w=.ok (.agg (sub (rowOf w (pb p)) (po p) n)) w:=by
 rw [pp_spec hp]
 simp only [pb_mk,po_mk]
 generalize pb p=b at *
 generalize po p=o at *
 have hc:w.rangeAt b o ((rowOf w b).extract o (o + n)).toList:=fun j v hv=>by
  rw [rowOf_cell]
  simp only [Array.getElem?_toList,Array.getElem?_extract] at hv
  split at hv
  ·exact hv
  ·cases hv
 rw [run_loadAt_mid w b o t _ d hc hu hd (by rw [hi];simp;omega)]
 rfl
theorem store_row (t:TypeId) (n:Nat) (hi:(P.info? t).map (·.size)=some n) (w:World) (p v:Value) (hp:pp p=true) (h0:po p=0) (hv:isAg v=true)
  (hs:soft w (pb p)=true) (hr:(rowOf w (pb p)).size=n) (hn:(agc v).size=n) (h1:ones (agc v)=true):
  (Instr.storeAt t p v).run P w=.ok () (w.setRow (pb p) (agc v)):=by
 rw [pp_spec hp,isAg_spec hv,h0]
 simp only [pb_mk,agc_mk]
 obtain ⟨T,hT⟩:=soft_spec hs
 simp only [Instr.storeAt,Instr.sureAddr,Sem.run_bind,Sem.run_pure,Result.andThen_ok]
 exact run_storeVar_row w _ T t _ _ hT (by rw [hi,hn]) (by omega) h1
theorem exec_load_row {d:TypeDesc} (t:TypeId) (n:Nat) (hu:P.underlying t=some d) (hd:d.isRow=true) (hi:(P.info? t).map (·.size)=some n) (w:World) (ρ:Operand→Value) (x:Operand)
  (dst:Option Tmp) (ty:TypeId) (pos:String) (af:Array Edge) (gd:Option (Nat × Bool))
  (hp:pp (ρ x)=true) (h:po (ρ x) + n ≤ (rowOf w (pb (ρ x))).size):
  (execOp ρ ⟨dst,.load t x,ty,pos,af,gd⟩).run P w=.ok (.value (.agg (sub (rowOf w (pb (ρ x))) (po (ρ x)) n))) w:=by
 have h1:=load_row t n hu hd hi w (ρ x) hp h
 unfold execOp
 simp only [Sem.run_bind,h1,Result.andThen_ok,Sem.run_pure]
theorem exec_store_row (t:TypeId) (n:Nat) (hi:(P.info? t).map (·.size)=some n) (w:World) (ρ:Operand→Value) (x y:Operand)
  (dst:Option Tmp) (ty:TypeId) (pos:String) (af:Array Edge) (gd:Option (Nat × Bool))
  (hp:pp (ρ x)=true) (h0:po (ρ x)=0) (hv:isAg (ρ y)=true)
  (hs:soft w (pb (ρ x))=true) (hr:(rowOf w (pb (ρ x))).size=n) (hn:(agc (ρ y)).size=n) (h1:ones (agc (ρ y))=true):
  (execOp ρ ⟨dst,.store t x y,ty,pos,af,gd⟩).run P w=.ok .skip (w.setRow (pb (ρ x)) (agc (ρ y))):=by
 have h2:=store_row t n hi w (ρ x) (ρ y) hp h0 hv hs hr hn h1
 unfold execOp
 simp only [Sem.run_bind,h2,Result.andThen_ok,Sem.run_pure]
theorem var_row {d:TypeDesc} (t:TypeId) (n:Nat) (hu:P.underlying t=some d) (hd:d.isRow=true) (hi:(P.info? t).map (·.size)=some n) (w:World) (b o:Nat) (h:o + n ≤ (rowOf w b).size):
  (loadVar t ⟨b,o,none⟩).run P w=.ok (.agg (sub (rowOf w b) o n)) w:=by
 have h1:=load_row t n hu hd hi w (.pointer (some ⟨b,o,none⟩)) rfl h
 simp only [Instr.loadAt,Instr.sureAddr,Sem.run_bind,Sem.run_pure,Result.andThen_ok] at h1
 exact h1
theorem results_row {fn:Func} {p:Tmp} {d:TypeDesc} {t:TypeId} {n:Nat} (hr:fn.results=#[.cell p t]) (hu:P.underlying t=some d) (hd:d.isRow=true) (hi:(P.info? t).map (·.size)=some n)
  (tmps:Array Value) (w:World) (b:Nat) (hp:tmps.getD p undef=.pointer (some ⟨b,0,none⟩)) {cs:Array Value} (hc:rowOf w b=cs) (hn:cs.size=n):
  (results fn tmps).run P w=.ok (.agg cs) w:=by
 have h1:=var_row t n hu hd hi w b 0 (by rw [hc];omega)
 have hp':tmps[p]?.getD undef=.pointer (some ⟨b,0,none⟩):=by simpa using hp
 have e:sub (rowOf w b) 0 n=cs:=by rw [hc,← hn];simp [sub]
 rw [e] at h1
 simp [results,hr,hp',asAddr,h1]
theorem results_row2 {fn:Func} {p u v:Tmp} {d:TypeDesc} {t:TypeId} {n:Nat} (hr:fn.results=#[.cell p t,.tmp u,.tmp v]) (hu:P.underlying t=some d) (hd:d.isRow=true) (hi:(P.info? t).map (·.size)=some n)
  (tmps:Array Value) (w:World) (b:Nat) (hp:tmps.getD p undef=.pointer (some ⟨b,0,none⟩)) {cs:Array Value} (hc:rowOf w b=cs) (hn:cs.size=n):
  (results fn tmps).run P w=.ok (.tuple #[.agg cs,tmps.getD u undef,tmps.getD v undef]) w:=by
 have h1:=var_row t n hu hd hi w b 0 (by rw [hc];omega)
 have hp':tmps[p]?.getD undef=.pointer (some ⟨b,0,none⟩):=by simpa using hp
 have e:sub (rowOf w b) 0 n=cs:=by rw [hc,← hn];simp [sub]
 rw [e] at h1
 simp [results,hr,hp',asAddr,h1]
end
def min4 (x y z u:Int):Int:=if u < (if z < (if y < x then y else x) then z else (if y < x then y else x)) then u else (if z < (if y < x then y else x) then z else (if y < x then y else x))
def max4 (x y z u:Int):Int:=if (if (if x < y then y else x) < z then z else (if x < y then y else x)) < u then u else (if (if x < y then y else x) < z then z else (if x < y then y else x))
theorem run_min4 {P:Program} (ts:Array TypeId) (t:TypeId) (x y z u:Int) (w:World):(Builtin.min_ ts t #[.int .i64 x,.int .i64 y,.int .i64 z,.int .i64 u]).run P w=.ok (.int .i64 (min4 x y z u)) w:=by
 simp [Builtin.min_,Builtin.min2,min4]
theorem run_max4 {P:Program} (ts:Array TypeId) (t:TypeId) (x y z u:Int) (w:World):(Builtin.max_ ts t #[.int .i64 x,.int .i64 y,.int .i64 z,.int .i64 u]).run P w=.ok (.int .i64 (max4 x y z u)) w:=by
 simp [Builtin.max_,Builtin.max2,max4]
attribute [go_sem] run_min4 run_max4
end Go.Proofs.YtjkfondgacjpnaaGreatDoor
namespace Go.Proofs.YtjkfondgacjpnaaGreatDoor
open Go.RowKit
set_option maxRecDepth 100000
attribute [local go_sem ↓] cutA_zero
theorem elemB:Elem Tryz.prog 56 5 1:=Elem.mk' Tryz.underlying56 (by kernel_rfl) (z:=.int .u8 0) (bytes:=1) rfl (by decide) (by decide)
section
variable (w:World) (a:Option Addr) (len cap:Nat)
theorem slice22_lh (kl kh:IntKind) (l h:Int) (h0:0 ≤ l) (h1:l ≤ h) (h2:h ≤ cap):
  (Instr.slice 56 (.slice a len cap) (some (.int kl l)) (some (.int kh h)) none).run Tryz.prog w=.ok (.slice (cutA a l.toNat cap) (h.toNat - l.toNat) (cap - l.toNat)) w:=by
 rw [run_slice_lh w 56 a len cap Tryz.underlying56 kl kh l h h0 h1 h2]
 rfl
theorem slice22_h (kh:IntKind) (h:Int) (h0:0 ≤ h) (h2:h ≤ cap):
  (Instr.slice 56 (.slice a len cap) none (some (.int kh h)) none).run Tryz.prog w=.ok (.slice a h.toNat cap) w:=by
 rw [run_slice_h w 56 a len cap Tryz.underlying56 kh h h0 h2]
 show Result.ok (Value.slice (cutA a 0 cap) _ _) w=_
 rw [cutA_zero]
 rfl
theorem slice22_l (kl:IntKind) (l:Int) (h0:0 ≤ l) (h1:l ≤ len):
  (Instr.slice 56 (.slice a len cap) (some (.int kl l)) none none).run Tryz.prog w=.ok (.slice (cutA a l.toNat cap) (len - l.toNat) (cap - l.toNat)) w:=by
 rw [run_slice_l w 56 a len cap Tryz.underlying56 kl l h0 h1]
 rfl
theorem slice22_lhm (kl kh km:IntKind) (l h m:Int) (h0:0 ≤ l) (h1:l ≤ h) (h2:h ≤ m) (h3:m ≤ cap):
  (Instr.slice 56 (.slice a len cap) (some (.int kl l)) (some (.int kh h)) (some (.int km m))).run Tryz.prog w=.ok (.slice (cutA a l.toNat m.toNat) (h.toNat - l.toNat) (m.toNat - l.toNat)) w:=by
 rw [run_slice_lhm w 56 a len cap Tryz.underlying56 kl kh km l h m h0 h1 h2 h3]
 rfl
end
attribute [go_sem high] slice22_lh slice22_h slice22_l slice22_lhm
end Go.Proofs.YtjkfondgacjpnaaGreatDoor
namespace Go.Proofs.YtjkfondgacjpnaaGreatDoor
open Go.RowKit
set_option maxRecDepth 100000
def turn:Nat:=0x82F63B78
def cstep (w:Nat):Nat:=(w / 2) ^^^ (if w % 2=1 then turn else 0)
def cbyte (w b:Nat):Nat:=Nat.repeat cstep 8 (w ^^^ b)
def creg (l:List Nat):Nat:=l.foldl cbyte 4294967295
def csum (l:List Nat):Nat:=4294967295 - creg l
theorem cstep_lt (w:Nat) (h:w < 4294967296):cstep w < 4294967296:=by
 unfold cstep
 exact Nat.xor_lt_two_pow (n:=32) (by omega) (by unfold turn;split <;> omega)
theorem crep_lt (q w:Nat) (h:w < 4294967296):Nat.repeat cstep q w < 4294967296:=by
 induction q with
 | zero=>exact h
 | succ q ih=>exact cstep_lt _ ih
theorem cbyte_lt (w b:Nat) (h:w < 4294967296) (hb:b < 256):cbyte w b < 4294967296:=crep_lt _ _ (Nat.xor_lt_two_pow (n:=32) (by omega) (by omega))
theorem cfold_lt (l:List Nat) (hl:∀ x ∈ l,x < 256) (w:Nat) (h:w < 4294967296):l.foldl cbyte w < 4294967296:=by
 induction l generalizing w with
 | nil=>exact h
 | cons x l ih=>exact ih (fun y hy=>hl y (by simp [hy])) _ (cbyte_lt _ _ h (hl x (by simp)))
theorem creg_lt (l:List Nat) (hl:∀ x ∈ l,x < 256):creg l < 4294967296:=cfold_lt l hl _ (by decide)
theorem csum_lt (l:List Nat):csum l < 4294967296:=by unfold csum;omega
theorem creg_take (l:List Nat) (j x:Nat) (h:l[j]?=some x):creg (l.take (j + 1))=cbyte (creg (l.take j)) x:=by
 rw [List.take_add_one,h];unfold creg;simp
def Small (l:List Nat):Prop:=∀ x ∈ l,x < 256
theorem Small.at {l:List Nat} (h:Small l) {j x:Nat} (hj:l[j]?=some x):x < 256:=h x (List.mem_of_getElem? hj)
theorem Small.take {l:List Nat} (h:Small l) (j:Nat):Small (l.take j):=fun x hx=>h x (List.mem_of_mem_take hx)
theorem Small.drop {l:List Nat} (h:Small l) (j:Nat):Small (l.drop j):=fun x hx=>h x (List.mem_of_mem_drop hx)
theorem Small.append {l k:List Nat} (h:Small l) (h':Small k):Small (l ++ k):=fun x hx=>by
 rcases List.mem_append.1 hx with h1 | h1
 ·exact h x h1
 ·exact h' x h1
theorem step_eq (v:Nat) (h:v < 4294967296):bits .xor .u32 ((v:Int) / 2) (bits .and .u32 (-bits .and .u32 (v:Int) 1 % 4294967296) 2197175160)=((cstep v:Nat):Int):=by
 have h1:=u32_and_nat v 1 h (by decide)
 rw [Nat.and_one_is_mod] at h1
 have h1':bits .and .u32 (v:Int) 1=((v % 2:Nat):Int):=h1
 rw [h1']
 have h2:((v:Int) / 2)=((v / 2:Nat):Int):=by omega
 rw [h2]
 unfold cstep turn
 rcases Nat.mod_two_eq_zero_or_one v with h0 | h0
 ·rw [h0]
  have h3:bits .and .u32 0 2197175160=0:=by kernel_rfl
  have:=u32_xor_nat (v / 2) 0 (by omega) (by decide)
  simpa [h3] using this
 ·rw [h0]
  have h3:bits .and .u32 4294967295 2197175160=2197175160:=by kernel_rfl
  have:=u32_xor_nat (v / 2) 2197175160 (by omega) (by decide)
  simpa [h3] using this
theorem xor_ones (b:Nat) (h:b < 4294967296):4294967295 ^^^ b=4294967295 - b:=by
 have h1:(~~~(BitVec.ofNat 32 b)).toNat=2 ^ 32 - 1 - b:=by rw [BitVec.toNat_not,BitVec.toNat_ofNat,Nat.mod_eq_of_lt h]
 rw [BitVec.not_def,BitVec.toNat_xor,BitVec.toNat_allOnes,BitVec.toNat_ofNat,Nat.mod_eq_of_lt h] at h1
 exact h1
set_option maxHeartbeats 1000000 in
theorem Sum_any {w:World} {ao:Option Addr} {n c:Nat} {l:List Nat} (hl:Sl w ao n c (bts l)) (hs:Small l) (hn:n < 1099511627776):Calls Tryz.prog 213 #[.slice ao n c] w (Ret (.int .u32 (csum l:Nat)) w):=by
 have hln:l.length=n:=by rw [← hl.len,bts_length]
 go_enter Tryz.func213,Tryz.ntmps213
 go_wp2
 go_loopw [3,8] (fun v i wr=>∃ j:Nat,j ≤ n∧i=.int .i64 j∧v=.int .u32 (creg (l.take j):Nat)∧Below w.heap.size w wr) (fun _ i _=>n - (intOf i).toNat)
 case atStart=>exact ⟨0,by omega,rfl,rfl,by (repeat' (first | (with_reducible exact Below.refl _ _) | (with_reducible assumption) | (with_reducible refine Ext.up _ ?_) | (with_reducible refine Below.alloc ?_ ?_ _) | (with_reducible refine Below.drew ?_) | (with_reducible refine Below.setCell ?_ ?_ _) | (with_reducible refine Below.setRow_ ?_ ?_ _) | go_size))⟩
 case round=>
  obtain ⟨j,hj,rfl,rfl,hb⟩:=hrel
  by_cases hlt:j < n
  ·obtain ⟨b,o,rfl,hbw,hc⟩:=hl.at (by omega)
   obtain ⟨x,hjx⟩:∃ x,l[j]?=some x:=⟨_,List.getElem?_eq_getElem (by omega)⟩
   have hx:=hc j _ (by rw [bts_get,hjx];rfl)
   rw [← hb.cell (by exact hbw)] at hx
   have hx2:=hs.at hjx
   have hr:=creg_lt _ (hs.take j)
   have hxr:=u32_xor_nat _ x hr (by omega)
   have hz:=Nat.xor_lt_two_pow (n:=32) hr (show x < 2 ^ 32 by omega)
   go_wp2
   go_loopw [3,16] (fun v i wq=>∃ q:Nat,q ≤ 8∧i=.int .i64 q∧v=.int .u32 (Nat.repeat cstep q (creg (l.take j) ^^^ x):Nat)∧Below w.heap.size w wq) (fun _ i _=>8 - (intOf i).toNat)
   case atStart=>exact ⟨0,by omega,rfl,rfl,by (repeat' (first | (with_reducible exact Below.refl _ _) | (with_reducible assumption) | (with_reducible refine Ext.up _ ?_) | (with_reducible refine Below.alloc ?_ ?_ _) | (with_reducible refine Below.drew ?_) | (with_reducible refine Below.setCell ?_ ?_ _) | (with_reducible refine Below.setRow_ ?_ ?_ _) | go_size))⟩
   case round=>
    obtain ⟨q,hq,rfl,rfl,hbq⟩:=hrel
    have hrq:=crep_lt q _ hz
    by_cases hlq:q < 8
    ·have hlq':(q:Int) < 8:=by omega
     go_wp2
     go_roundw
     case rel=>exact ⟨q + 1,by omega,rfl,by rw [step_eq _ hrq];rfl,hbq⟩
     case measure=>simp [intOf];omega
    ·go_wp2
     go_roundw
     case rel=>
      obtain rfl:q=8:=by omega
      exact ⟨j + 1,by omega,rfl,by rw [creg_take l j x hjx];rfl,hbq⟩
     case measure=>simp [intOf];omega
  ·have hrj:=creg_lt _ (hs.take j)
   have hnot:=u32_xor_nat 4294967295 _ (by decide) hrj
   rw [xor_ones _ hrj] at hnot
   have hsg:IntKind.u32.signed=false:=rfl
   have hmx:IntKind.u32.max=(4294967295:Nat):=rfl
   go_wp2
   go_ret
   obtain rfl:j=n:=by omega
   refine Ret.mk_of hb ?_
   rw [← hln,List.take_length] at hnot
   rw [← hln,List.take_length]
   exact congrArg (Value.int .u32) hnot
def num:List Nat→Nat
 | []=>0
 | x :: l=>x + 256 * num l
def les (x:Nat):Nat→List Nat
 | 0=>[]
 | k + 1=>x % 256 :: les (x / 256) k
end Go.Proofs.YtjkfondgacjpnaaGreatDoor
