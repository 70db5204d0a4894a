/- What is proved: parts of the walk and of the plain law, 1 texts in one. No condition but those each law names. -/
import Derived.Test.YtjkfondgacjpnaaGreatDoorF27
namespace Go.Proofs.YtjkfondgacjpnaaGreatDoor
open Go.RowKit
set_option maxRecDepth 100000
attribute [local go_sem ↓] rowOf_cell
def plCells:Array Value:=#[.func (.func 160) #[] #[],.int .i64 0,.int .i64 1125899906842624,.int .i64 15,.func (.func 161) #[] #[],.int .i64 0,.int .i64 1125899906842624,.int .i64 15,.func (.func 162) #[] #[],.int .i64 1,.int .i64 1125899906842624,.int .i64 15,.func (.func 163) #[] #[],.int .i64 1,.int .i64 1125899906842624,.int .i64 15,.func (.func 164) #[] #[],.int .i64 0,.int .i64 1125899906842624,.int .i64 15,.func (.func 165) #[] #[],.int .i64 0,.int .i64 1000000,.int .i64 1,.func (.func 166) #[] #[],.int .i64 1,.int .i64 20,.int .i64 1,.func (.func 167) #[] #[],.int .i64 1,.int .i64 50,.int .i64 1,.func (.func 168) #[] #[],.int .i64 0,.int .i64 50,.int .i64 1,.func (.func 169) #[] #[],.int .i64 1,.int .i64 10,.int .i64 1]
theorem pl_0:sub plCells 0 4=#[.func (.func 160) #[] #[],.int .i64 0,.int .i64 1125899906842624,.int .i64 15]:=by kernel_rfl
theorem pl_1:sub plCells 4 4=#[.func (.func 161) #[] #[],.int .i64 0,.int .i64 1125899906842624,.int .i64 15]:=by kernel_rfl
theorem pl_2:sub plCells 8 4=#[.func (.func 162) #[] #[],.int .i64 1,.int .i64 1125899906842624,.int .i64 15]:=by kernel_rfl
theorem pl_3:sub plCells 12 4=#[.func (.func 163) #[] #[],.int .i64 1,.int .i64 1125899906842624,.int .i64 15]:=by kernel_rfl
theorem pl_4:sub plCells 16 4=#[.func (.func 164) #[] #[],.int .i64 0,.int .i64 1125899906842624,.int .i64 15]:=by kernel_rfl
theorem pl_5:sub plCells 20 4=#[.func (.func 165) #[] #[],.int .i64 0,.int .i64 1000000,.int .i64 1]:=by kernel_rfl
theorem pl_6:sub plCells 24 4=#[.func (.func 166) #[] #[],.int .i64 1,.int .i64 20,.int .i64 1]:=by kernel_rfl
theorem pl_7:sub plCells 28 4=#[.func (.func 167) #[] #[],.int .i64 1,.int .i64 50,.int .i64 1]:=by kernel_rfl
theorem pl_8:sub plCells 32 4=#[.func (.func 168) #[] #[],.int .i64 0,.int .i64 50,.int .i64 1]:=by kernel_rfl
theorem pl_9:sub plCells 36 4=#[.func (.func 169) #[] #[],.int .i64 1,.int .i64 10,.int .i64 1]:=by kernel_rfl
theorem pl_size:plCells.size=40:=rfl
theorem places_any (w:World):Calls Tryz.prog 112 #[] w fun e w'=>e=.returned (.slice (some ⟨w.heap.size,0,none⟩) 10 10)∧w'=w.alloc (.cells plCells 208):=by
 go_enter Tryz.func112,Tryz.ntmps112
 go_wp2
 go_ret
 exact ⟨rfl,rfl⟩
theorem pf_0 (t:Tm) (w:World):Calls Tryz.prog 160 #[.agg t.cells] w fun e w'=>e=.returned (.int .i64 (t.base))∧Below w.heap.size w w':=by
 go_enter Tryz.func160,Tryz.ntmps160
 go_upto_region 1 with (fail)
 have bx:=Bx.new w (t.cells) 53;generalize w.alloc (.cells (t.cells) 53)=W at bx ⊢;have rx:=bx.rowOf;have sx:=bx.soft;have BX:=Lib.hid bx;clear bx
 go_wp2
 go_ret
 exact ⟨rfl,BX.out.below⟩
theorem pf_1 (t:Tm) (w:World):Calls Tryz.prog 161 #[.agg t.cells] w fun e w'=>e=.returned (.int .i64 (t.reserve))∧Below w.heap.size w w':=by
 go_enter Tryz.func161,Tryz.ntmps161
 go_upto_region 1 with (fail)
 have bx:=Bx.new w (t.cells) 53;generalize w.alloc (.cells (t.cells) 53)=W at bx ⊢;have rx:=bx.rowOf;have sx:=bx.soft;have BX:=Lib.hid bx;clear bx
 go_wp2
 go_ret
 exact ⟨rfl,BX.out.below⟩
theorem pf_2 (t:Tm) (w:World):Calls Tryz.prog 162 #[.agg t.cells] w fun e w'=>e=.returned (.int .i64 (t.least))∧Below w.heap.size w w':=by
 go_enter Tryz.func162,Tryz.ntmps162
 go_upto_region 1 with (fail)
 have bx:=Bx.new w (t.cells) 53;generalize w.alloc (.cells (t.cells) 53)=W at bx ⊢;have rx:=bx.rowOf;have sx:=bx.soft;have BX:=Lib.hid bx;clear bx
 go_wp2
 go_ret
 exact ⟨rfl,BX.out.below⟩
theorem pf_3 (t:Tm) (w:World):Calls Tryz.prog 163 #[.agg t.cells] w fun e w'=>e=.returned (.int .i64 (t.most))∧Below w.heap.size w w':=by
 go_enter Tryz.func163,Tryz.ntmps163
 go_upto_region 1 with (fail)
 have bx:=Bx.new w (t.cells) 53;generalize w.alloc (.cells (t.cells) 53)=W at bx ⊢;have rx:=bx.rowOf;have sx:=bx.soft;have BX:=Lib.hid bx;clear bx
 go_wp2
 go_ret
 exact ⟨rfl,BX.out.below⟩
theorem pf_5 (t:Tm) (w:World):Calls Tryz.prog 165 #[.agg t.cells] w fun e w'=>e=.returned (.int .i64 (t.ppm))∧Below w.heap.size w w':=by
 go_enter Tryz.func165,Tryz.ntmps165
 go_upto_region 1 with (fail)
 have bx:=Bx.new w (t.cells) 53;generalize w.alloc (.cells (t.cells) 53)=W at bx ⊢;have rx:=bx.rowOf;have sx:=bx.soft;have BX:=Lib.hid bx;clear bx
 go_wp2
 go_ret
 exact ⟨rfl,BX.out.below⟩
theorem pf_6 (t:Tm) (w:World):Calls Tryz.prog 166 #[.agg t.cells] w fun e w'=>e=.returned (.int .i64 (t.depth))∧Below w.heap.size w w':=by
 go_enter Tryz.func166,Tryz.ntmps166
 go_upto_region 1 with (fail)
 have bx:=Bx.new w (t.cells) 53;generalize w.alloc (.cells (t.cells) 53)=W at bx ⊢;have rx:=bx.rowOf;have sx:=bx.soft;have BX:=Lib.hid bx;clear bx
 go_wp2
 go_ret
 exact ⟨rfl,BX.out.below⟩
theorem pf_7 (t:Tm) (w:World):Calls Tryz.prog 167 #[.agg t.cells] w fun e w'=>e=.returned (.int .i64 (t.delay))∧Below w.heap.size w w':=by
 go_enter Tryz.func167,Tryz.ntmps167
 go_upto_region 1 with (fail)
 have bx:=Bx.new w (t.cells) 53;generalize w.alloc (.cells (t.cells) 53)=W at bx ⊢;have rx:=bx.rowOf;have sx:=bx.soft;have BX:=Lib.hid bx;clear bx
 go_wp2
 go_ret
 exact ⟨rfl,BX.out.below⟩
theorem pf_8 (t:Tm) (w:World):Calls Tryz.prog 168 #[.agg t.cells] w fun e w'=>e=.returned (.int .i64 (t.lag))∧Below w.heap.size w w':=by
 go_enter Tryz.func168,Tryz.ntmps168
 go_upto_region 1 with (fail)
 have bx:=Bx.new w (t.cells) 53;generalize w.alloc (.cells (t.cells) 53)=W at bx ⊢;have rx:=bx.rowOf;have sx:=bx.soft;have BX:=Lib.hid bx;clear bx
 go_wp2
 go_ret
 exact ⟨rfl,BX.out.below⟩
theorem pf_9 (t:Tm) (w:World):Calls Tryz.prog 169 #[.agg t.cells] w fun e w'=>e=.returned (.int .i64 (t.fast))∧Below w.heap.size w w':=by
 go_enter Tryz.func169,Tryz.ntmps169
 go_upto_region 1 with (fail)
 have bx:=Bx.new w (t.cells) 53;generalize w.alloc (.cells (t.cells) 53)=W at bx ⊢;have rx:=bx.rowOf;have sx:=bx.soft;have BX:=Lib.hid bx;clear bx
 go_wp2
 go_ret
 exact ⟨rfl,BX.out.below⟩
theorem pf_4 (t:Tm) (w:World):Calls Tryz.prog 164 #[.agg t.cells] w fun e w'=>e=.returned (.int .i64 (wrap64 (min t.most 1125899906842624 - max t.least 1)))∧Below w.heap.size w w':=by
 go_enter Tryz.func164,Tryz.ntmps164
 go_upto_region 1 with (fail)
 have bx:=Bx.new w (t.cells) 53;generalize w.alloc (.cells (t.cells) 53)=W at bx ⊢;have rx:=bx.rowOf;have sx:=bx.soft;have BX:=Lib.hid bx;clear bx
 go_wp2
 go_ret
 exact ⟨rfl,BX.out.below⟩
def vT (t:Tm):Nat→Int
 | 0=>t.base
 | 1=>t.reserve
 | 2=>t.least
 | 3=>t.most
 | 4=>wrap64 (min t.most 1125899906842624 - max t.least 1)
 | 5=>t.ppm
 | 6=>t.depth
 | 7=>t.delay
 | 8=>t.lag
 | 9=>t.fast
 | _=>0
def loT:Nat→Int
 | 0=>0
 | 1=>0
 | 2=>1
 | 3=>1
 | 4=>0
 | 5=>0
 | 6=>1
 | 7=>1
 | 8=>0
 | 9=>1
 | _=>0
def hiT:Nat→Int
 | 0=>1125899906842624
 | 1=>1125899906842624
 | 2=>1125899906842624
 | 3=>1125899906842624
 | 4=>1125899906842624
 | 5=>1000000
 | 6=>20
 | 7=>50
 | 8=>50
 | 9=>10
 | _=>0
def noT:Nat→Int
 | 0=>15
 | 1=>15
 | 2=>15
 | 3=>15
 | 4=>15
 | 5=>1
 | 6=>1
 | 7=>1
 | 8=>1
 | 9=>1
 | _=>0
def okT (t:Tm) (j:Nat):Prop:=loT j ≤ vT t j∧vT t j ≤ hiT j
instance (t:Tm) (j:Nat):Decidable (okT t j):=inferInstanceAs (Decidable (_∧_))
def chkF (t:Tm):Nat→Int
 | 0=>0
 | k + 1=>if okT t (9 - k) then chkF t k else noT (9 - k)
def chkT (t:Tm):Int:=chkF t 10
theorem chkT_no {t:Tm} {j:Nat} (hj:j < 10) (h:∀ i,i < j→okT t i) (hn:¬ okT t j):chkT t=noT j:=by
 have:∀ k,k ≤ 10→10 - k ≤ j→chkF t k=noT j:=by
  intro k
  induction k with
  | zero=>intro _ h2;omega
  | succ k ih=>
   intro h1 h2
   unfold chkF
   by_cases e:9 - k=j
   ·rw [e,if_neg hn]
   ·rw [if_pos (h (9 - k) (by omega)),ih (by omega) (by omega)]
 exact this 10 (Nat.le_refl _) (by omega)
theorem chkT_ok {t:Tm} (h:∀ i,i < 10→okT t i):chkT t=0:=by
 have:∀ k,k ≤ 10→chkF t k=0:=by
  intro k
  induction k with
  | zero=>intro _;rfl
  | succ k ih=>
   intro h1
   unfold chkF
   rw [if_pos (h (9 - k) (by omega)),ih (by omega)]
 exact this 10 (Nat.le_refl _)
theorem pl_load (w:World) (ρ:Operand→Value) (x:Operand) (dst:Option Tmp) (ty:TypeId) (pos:String) (af:Array Edge) (gd:Option (Nat × Bool)) (hp:pp (ρ x)=true) (h:po (ρ x) + 4 ≤ (rowOf w (pb (ρ x))).size):(execOp ρ ⟨dst,.load 208 x,ty,pos,af,gd⟩).run Tryz.prog w=.ok (.value (.agg (sub (rowOf w (pb (ρ x))) (po (ρ x)) 4))) w:=
 exec_load_row 208 4 Tryz.underlying208 rfl (by kernel_rfl) w ρ x dst ty pos af gd hp h
theorem pl_store (w:World) (ρ:Operand→Value) (x y:Operand) (dst:Option Tmp) (ty:TypeId) (pos:String) (af:Array Edge) (gd:Option (Nat × Bool)) (hp:pp (ρ x)=true) (h0:po (ρ x)=0) (hv:isAg (ρ y)=true) (hs:soft w (pb (ρ x))=true) (hr:(rowOf w (pb (ρ x))).size=4) (hn:(agc (ρ y)).size=4) (h1:ones (agc (ρ y))=true):
  (execOp ρ ⟨dst,.store 208 x y,ty,pos,af,gd⟩).run Tryz.prog w=.ok .skip (w.setRow (pb (ρ x)) (agc (ρ y))):=
 exec_store_row 208 4 (by kernel_rfl) w ρ x y dst ty pos af gd hp h0 hv hs hr hn h1
theorem pl_one (f:Nat) (a b c:Int):ones #[.func (.func f) #[] #[],.int .i64 a,.int .i64 b,.int .i64 c]=true:=by simp [ones,Value.oneCell']
attribute [local go_sem ↓] pl_load pl_store
attribute [local go_sem] pl_one pl_size pl_0 pl_1 pl_2 pl_3 pl_4 pl_5 pl_6 pl_7 pl_8 pl_9
attribute [local go_sem] rowOf_alloc soft_alloc
set_option maxHeartbeats 4000000 in
theorem QCheck_any (t:Tm) (w:World):Calls Tryz.prog 83 #[.agg t.cells] w fun e w'=>e=.returned (.int .i64 (chkT t))∧Below w.heap.size w w':=by
 go_enter Tryz.func83,Tryz.ntmps83
 go_upto_region 1 with (fail)
 have bx:=Bx.new w (t.cells) 53;generalize w.alloc (.cells (t.cells) 53)=W at bx ⊢;have rx:=bx.rowOf;have sx:=bx.soft;have BX:=Lib.hid bx;clear bx
 go_wp2_with fail
 refine (places_any _).mono ?_
 rintro _ _ ⟨rfl,rfl⟩
 go_wp2_with fail
 go_loopw [8] (fun v8 wr=>∃ j:Nat,j ≤ 10∧v8=.int .i64 j∧(∀ i,i < j→okT t i)∧Bx w t.cells 53 wr∧Bx W plCells 208 wr) (fun v8 _=>10 - (intOf v8).toNat)
 case atStart=>exact ⟨0,by omega,rfl,fun i h=>absurd h (by omega),BX.out.step (below1 W _),Bx.new W _ _⟩
 case round=>
  obtain ⟨j,hj,rfl,hall,bx,sl⟩:=hrel
  have rx:=bx.rowOf
  have rs:=sl.rowOf
  have BX:=Lib.hid bx
  have SX:=Lib.hid sl
  have HA:=Lib.hid hall
  clear bx sl hall
  match j,hj with
  | 0,_=>
   have h14:W.heap.size ≠ wr.heap.size:=by have:=(Array.getElem?_eq_some_iff.1 SX.out.row).1;omega
   have h15:w.heap.size ≠ wr.heap.size:=by have:=(Array.getElem?_eq_some_iff.1 BX.out.row).1;omega
   go_upto_region 4 with (fail)
   have lx:=Bx.made wr #[.nilFunc,.int .i64 0,.int .i64 0,.int .i64 0] #[.func (.func 160) #[] #[],.int .i64 0,.int .i64 1125899906842624,.int .i64 15] 208
   generalize (wr.alloc (.cells #[.nilFunc,.int .i64 0,.int .i64 0,.int .i64 0] 208)).setRow wr.heap.size #[.func (.func 160) #[] #[],.int .i64 0,.int .i64 1125899906842624,.int .i64 15]=W5 at lx ⊢
   have bx:=BX.out.step lx.below
   have sl:=SX.out.step lx.below
   have rl:=lx.rowOf
   have rx5:=bx.rowOf
   have BX:=Lib.hid bx
   have SX:=Lib.hid sl
   have LX:=Lib.hid lx
   clear bx sl lx rx rs h14 h15
   obtain ⟨v,hv⟩:∃ v,v=t.base:=⟨_,rfl⟩
   have PF:=Lib.hid (pf_0 t W5)
   rw [← hv] at PF
   have HV:=Lib.hid hv
   clear hv
   go_wp2_with fail
   refine PF.out.mono ?_
   rintro _ W6 ⟨rfl,hb6⟩
   have bx:=BX.out.step hb6
   have sl:=SX.out.step hb6
   have rl6:=(LX.out.step hb6).rowOf
   have BX:=Lib.hid bx
   have SX:=Lib.hid sl
   clear bx sl hb6 rl rx5 PF
   by_cases h1:v < 0
   ·have E:=Lib.hid (chkT_no (t:=t) (j:=0) (by decide) HA.out (by show ¬ (0 ≤ t.base∧t.base ≤ 1125899906842624);rw [← HV.out];omega))
    go_wp2
    go_ret
    exact ⟨by rw [E.out];rfl,BX.out.below⟩
   ·by_cases h2:v > 1125899906842624
    ·have E:=Lib.hid (chkT_no (t:=t) (j:=0) (by decide) HA.out (by show ¬ (0 ≤ t.base∧t.base ≤ 1125899906842624);rw [← HV.out];omega))
     go_wp2
     go_ret
     exact ⟨by rw [E.out];rfl,BX.out.below⟩
    ·have HZ:=Lib.hid (show okT t 0 from (by show 0 ≤ t.base∧t.base ≤ 1125899906842624;rw [← HV.out];omega))
     go_wp2
     go_roundw
     case rel=>exact ⟨0 + 1,by omega,rfl,all_succ HA.out HZ.out,BX.out,SX.out⟩
     case measure=>simp [intOf]
  | 1,_=>
   have h14:W.heap.size ≠ wr.heap.size:=by have:=(Array.getElem?_eq_some_iff.1 SX.out.row).1;omega
   have h15:w.heap.size ≠ wr.heap.size:=by have:=(Array.getElem?_eq_some_iff.1 BX.out.row).1;omega
   go_upto_region 4 with (fail)
   have lx:=Bx.made wr #[.nilFunc,.int .i64 0,.int .i64 0,.int .i64 0] #[.func (.func 161) #[] #[],.int .i64 0,.int .i64 1125899906842624,.int .i64 15] 208
   generalize (wr.alloc (.cells #[.nilFunc,.int .i64 0,.int .i64 0,.int .i64 0] 208)).setRow wr.heap.size #[.func (.func 161) #[] #[],.int .i64 0,.int .i64 1125899906842624,.int .i64 15]=W5 at lx ⊢
   have bx:=BX.out.step lx.below
   have sl:=SX.out.step lx.below
   have rl:=lx.rowOf
   have rx5:=bx.rowOf
   have BX:=Lib.hid bx
   have SX:=Lib.hid sl
   have LX:=Lib.hid lx
   clear bx sl lx rx rs h14 h15
   obtain ⟨v,hv⟩:∃ v,v=t.reserve:=⟨_,rfl⟩
   have PF:=Lib.hid (pf_1 t W5)
   rw [← hv] at PF
   have HV:=Lib.hid hv
   clear hv
   go_wp2_with fail
   refine PF.out.mono ?_
   rintro _ W6 ⟨rfl,hb6⟩
   have bx:=BX.out.step hb6
   have sl:=SX.out.step hb6
   have rl6:=(LX.out.step hb6).rowOf
   have BX:=Lib.hid bx
   have SX:=Lib.hid sl
   clear bx sl hb6 rl rx5 PF
   by_cases h1:v < 0
   ·have E:=Lib.hid (chkT_no (t:=t) (j:=1) (by decide) HA.out (by show ¬ (0 ≤ t.reserve∧t.reserve ≤ 1125899906842624);rw [← HV.out];omega))
    go_wp2
    go_ret
    exact ⟨by rw [E.out];rfl,BX.out.below⟩
   ·by_cases h2:v > 1125899906842624
    ·have E:=Lib.hid (chkT_no (t:=t) (j:=1) (by decide) HA.out (by show ¬ (0 ≤ t.reserve∧t.reserve ≤ 1125899906842624);rw [← HV.out];omega))
     go_wp2
     go_ret
     exact ⟨by rw [E.out];rfl,BX.out.below⟩
    ·have HZ:=Lib.hid (show okT t 1 from (by show 0 ≤ t.reserve∧t.reserve ≤ 1125899906842624;rw [← HV.out];omega))
     go_wp2
     go_roundw
     case rel=>exact ⟨1 + 1,by omega,rfl,all_succ HA.out HZ.out,BX.out,SX.out⟩
     case measure=>simp [intOf]
  | 2,_=>
   have h14:W.heap.size ≠ wr.heap.size:=by have:=(Array.getElem?_eq_some_iff.1 SX.out.row).1;omega
   have h15:w.heap.size ≠ wr.heap.size:=by have:=(Array.getElem?_eq_some_iff.1 BX.out.row).1;omega
   go_upto_region 4 with (fail)
   have lx:=Bx.made wr #[.nilFunc,.int .i64 0,.int .i64 0,.int .i64 0] #[.func (.func 162) #[] #[],.int .i64 1,.int .i64 1125899906842624,.int .i64 15] 208
   generalize (wr.alloc (.cells #[.nilFunc,.int .i64 0,.int .i64 0,.int .i64 0] 208)).setRow wr.heap.size #[.func (.func 162) #[] #[],.int .i64 1,.int .i64 1125899906842624,.int .i64 15]=W5 at lx ⊢
   have bx:=BX.out.step lx.below
   have sl:=SX.out.step lx.below
   have rl:=lx.rowOf
   have rx5:=bx.rowOf
   have BX:=Lib.hid bx
   have SX:=Lib.hid sl
   have LX:=Lib.hid lx
   clear bx sl lx rx rs h14 h15
   obtain ⟨v,hv⟩:∃ v,v=t.least:=⟨_,rfl⟩
   have PF:=Lib.hid (pf_2 t W5)
   rw [← hv] at PF
   have HV:=Lib.hid hv
   clear hv
   go_wp2_with fail
   refine PF.out.mono ?_
   rintro _ W6 ⟨rfl,hb6⟩
   have bx:=BX.out.step hb6
   have sl:=SX.out.step hb6
   have rl6:=(LX.out.step hb6).rowOf
   have BX:=Lib.hid bx
   have SX:=Lib.hid sl
   clear bx sl hb6 rl rx5 PF
   by_cases h1:v < 1
   ·have E:=Lib.hid (chkT_no (t:=t) (j:=2) (by decide) HA.out (by show ¬ (1 ≤ t.least∧t.least ≤ 1125899906842624);rw [← HV.out];omega))
    go_wp2
    go_ret
    exact ⟨by rw [E.out];rfl,BX.out.below⟩
   ·by_cases h2:v > 1125899906842624
    ·have E:=Lib.hid (chkT_no (t:=t) (j:=2) (by decide) HA.out (by show ¬ (1 ≤ t.least∧t.least ≤ 1125899906842624);rw [← HV.out];omega))
     go_wp2
     go_ret
     exact ⟨by rw [E.out];rfl,BX.out.below⟩
    ·have HZ:=Lib.hid (show okT t 2 from (by show 1 ≤ t.least∧t.least ≤ 1125899906842624;rw [← HV.out];omega))
     go_wp2
     go_roundw
     case rel=>exact ⟨2 + 1,by omega,rfl,all_succ HA.out HZ.out,BX.out,SX.out⟩
     case measure=>simp [intOf]
  | 3,_=>
   have h14:W.heap.size ≠ wr.heap.size:=by have:=(Array.getElem?_eq_some_iff.1 SX.out.row).1;omega
   have h15:w.heap.size ≠ wr.heap.size:=by have:=(Array.getElem?_eq_some_iff.1 BX.out.row).1;omega
   go_upto_region 4 with (fail)
   have lx:=Bx.made wr #[.nilFunc,.int .i64 0,.int .i64 0,.int .i64 0] #[.func (.func 163) #[] #[],.int .i64 1,.int .i64 1125899906842624,.int .i64 15] 208
   generalize (wr.alloc (.cells #[.nilFunc,.int .i64 0,.int .i64 0,.int .i64 0] 208)).setRow wr.heap.size #[.func (.func 163) #[] #[],.int .i64 1,.int .i64 1125899906842624,.int .i64 15]=W5 at lx ⊢
   have bx:=BX.out.step lx.below
   have sl:=SX.out.step lx.below
   have rl:=lx.rowOf
   have rx5:=bx.rowOf
   have BX:=Lib.hid bx
   have SX:=Lib.hid sl
   have LX:=Lib.hid lx
   clear bx sl lx rx rs h14 h15
   obtain ⟨v,hv⟩:∃ v,v=t.most:=⟨_,rfl⟩
   have PF:=Lib.hid (pf_3 t W5)
   rw [← hv] at PF
   have HV:=Lib.hid hv
   clear hv
   go_wp2_with fail
   refine PF.out.mono ?_
   rintro _ W6 ⟨rfl,hb6⟩
   have bx:=BX.out.step hb6
   have sl:=SX.out.step hb6
   have rl6:=(LX.out.step hb6).rowOf
   have BX:=Lib.hid bx
   have SX:=Lib.hid sl
   clear bx sl hb6 rl rx5 PF
   by_cases h1:v < 1
   ·have E:=Lib.hid (chkT_no (t:=t) (j:=3) (by decide) HA.out (by show ¬ (1 ≤ t.most∧t.most ≤ 1125899906842624);rw [← HV.out];omega))
    go_wp2
    go_ret
    exact ⟨by rw [E.out];rfl,BX.out.below⟩
   ·by_cases h2:v > 1125899906842624
    ·have E:=Lib.hid (chkT_no (t:=t) (j:=3) (by decide) HA.out (by show ¬ (1 ≤ t.most∧t.most ≤ 1125899906842624);rw [← HV.out];omega))
     go_wp2
     go_ret
     exact ⟨by rw [E.out];rfl,BX.out.below⟩
    ·have HZ:=Lib.hid (show okT t 3 from (by show 1 ≤ t.most∧t.most ≤ 1125899906842624;rw [← HV.out];omega))
     go_wp2
     go_roundw
     case rel=>exact ⟨3 + 1,by omega,rfl,all_succ HA.out HZ.out,BX.out,SX.out⟩
     case measure=>simp [intOf]
  | 4,_=>
   have h14:W.heap.size ≠ wr.heap.size:=by have:=(Array.getElem?_eq_some_iff.1 SX.out.row).1;omega
   have h15:w.heap.size ≠ wr.heap.size:=by have:=(Array.getElem?_eq_some_iff.1 BX.out.row).1;omega
   go_upto_region 4 with (fail)
   have lx:=Bx.made wr #[.nilFunc,.int .i64 0,.int .i64 0,.int .i64 0] #[.func (.func 164) #[] #[],.int .i64 0,.int .i64 1125899906842624,.int .i64 15] 208
   generalize (wr.alloc (.cells #[.nilFunc,.int .i64 0,.int .i64 0,.int .i64 0] 208)).setRow wr.heap.size #[.func (.func 164) #[] #[],.int .i64 0,.int .i64 1125899906842624,.int .i64 15]=W5 at lx ⊢
   have bx:=BX.out.step lx.below
   have sl:=SX.out.step lx.below
   have rl:=lx.rowOf
   have rx5:=bx.rowOf
   have BX:=Lib.hid bx
   have SX:=Lib.hid sl
   have LX:=Lib.hid lx
   clear bx sl lx rx rs h14 h15
   obtain ⟨v,hv⟩:∃ v,v=wrap64 (min t.most 1125899906842624 - max t.least 1):=⟨_,rfl⟩
   have PF:=Lib.hid (pf_4 t W5)
   rw [← hv] at PF
   have HV:=Lib.hid hv
   clear hv
   go_wp2_with fail
   refine PF.out.mono ?_
   rintro _ W6 ⟨rfl,hb6⟩
   have bx:=BX.out.step hb6
   have sl:=SX.out.step hb6
   have rl6:=(LX.out.step hb6).rowOf
   have BX:=Lib.hid bx
   have SX:=Lib.hid sl
   clear bx sl hb6 rl rx5 PF
   by_cases h1:v < 0
   ·have E:=Lib.hid (chkT_no (t:=t) (j:=4) (by decide) HA.out (by show ¬ (0 ≤ wrap64 (min t.most 1125899906842624 - max t.least 1)∧wrap64 (min t.most 1125899906842624 - max t.least 1) ≤ 1125899906842624);rw [← HV.out];omega))
    go_wp2
    go_ret
    exact ⟨by rw [E.out];rfl,BX.out.below⟩
   ·by_cases h2:v > 1125899906842624
    ·have E:=Lib.hid (chkT_no (t:=t) (j:=4) (by decide) HA.out (by show ¬ (0 ≤ wrap64 (min t.most 1125899906842624 - max t.least 1)∧wrap64 (min t.most 1125899906842624 - max t.least 1) ≤ 1125899906842624);rw [← HV.out];omega))
     go_wp2
     go_ret
     exact ⟨by rw [E.out];rfl,BX.out.below⟩
    ·have HZ:=Lib.hid (show okT t 4 from (by show 0 ≤ wrap64 (min t.most 1125899906842624 - max t.least 1)∧wrap64 (min t.most 1125899906842624 - max t.least 1) ≤ 1125899906842624;rw [← HV.out];omega))
     go_wp2
     go_roundw
     case rel=>exact ⟨4 + 1,by omega,rfl,all_succ HA.out HZ.out,BX.out,SX.out⟩
     case measure=>simp [intOf]
  | 5,_=>
   have h14:W.heap.size ≠ wr.heap.size:=by have:=(Array.getElem?_eq_some_iff.1 SX.out.row).1;omega
   have h15:w.heap.size ≠ wr.heap.size:=by have:=(Array.getElem?_eq_some_iff.1 BX.out.row).1;omega
   go_upto_region 4 with (fail)
   have lx:=Bx.made wr #[.nilFunc,.int .i64 0,.int .i64 0,.int .i64 0] #[.func (.func 165) #[] #[],.int .i64 0,.int .i64 1000000,.int .i64 1] 208
   generalize (wr.alloc (.cells #[.nilFunc,.int .i64 0,.int .i64 0,.int .i64 0] 208)).setRow wr.heap.size #[.func (.func 165) #[] #[],.int .i64 0,.int .i64 1000000,.int .i64 1]=W5 at lx ⊢
   have bx:=BX.out.step lx.below
   have sl:=SX.out.step lx.below
   have rl:=lx.rowOf
   have rx5:=bx.rowOf
   have BX:=Lib.hid bx
   have SX:=Lib.hid sl
   have LX:=Lib.hid lx
   clear bx sl lx rx rs h14 h15
   obtain ⟨v,hv⟩:∃ v,v=t.ppm:=⟨_,rfl⟩
   have PF:=Lib.hid (pf_5 t W5)
   rw [← hv] at PF
   have HV:=Lib.hid hv
   clear hv
   go_wp2_with fail
   refine PF.out.mono ?_
   rintro _ W6 ⟨rfl,hb6⟩
   have bx:=BX.out.step hb6
   have sl:=SX.out.step hb6
   have rl6:=(LX.out.step hb6).rowOf
   have BX:=Lib.hid bx
   have SX:=Lib.hid sl
   clear bx sl hb6 rl rx5 PF
   by_cases h1:v < 0
   ·have E:=Lib.hid (chkT_no (t:=t) (j:=5) (by decide) HA.out (by show ¬ (0 ≤ t.ppm∧t.ppm ≤ 1000000);rw [← HV.out];omega))
    go_wp2
    go_ret
    exact ⟨by rw [E.out];rfl,BX.out.below⟩
   ·by_cases h2:v > 1000000
    ·have E:=Lib.hid (chkT_no (t:=t) (j:=5) (by decide) HA.out (by show ¬ (0 ≤ t.ppm∧t.ppm ≤ 1000000);rw [← HV.out];omega))
     go_wp2
     go_ret
     exact ⟨by rw [E.out];rfl,BX.out.below⟩
    ·have HZ:=Lib.hid (show okT t 5 from (by show 0 ≤ t.ppm∧t.ppm ≤ 1000000;rw [← HV.out];omega))
     go_wp2
     go_roundw
     case rel=>exact ⟨5 + 1,by omega,rfl,all_succ HA.out HZ.out,BX.out,SX.out⟩
     case measure=>simp [intOf]
  | 6,_=>
   have h14:W.heap.size ≠ wr.heap.size:=by have:=(Array.getElem?_eq_some_iff.1 SX.out.row).1;omega
   have h15:w.heap.size ≠ wr.heap.size:=by have:=(Array.getElem?_eq_some_iff.1 BX.out.row).1;omega
   go_upto_region 4 with (fail)
   have lx:=Bx.made wr #[.nilFunc,.int .i64 0,.int .i64 0,.int .i64 0] #[.func (.func 166) #[] #[],.int .i64 1,.int .i64 20,.int .i64 1] 208
   generalize (wr.alloc (.cells #[.nilFunc,.int .i64 0,.int .i64 0,.int .i64 0] 208)).setRow wr.heap.size #[.func (.func 166) #[] #[],.int .i64 1,.int .i64 20,.int .i64 1]=W5 at lx ⊢
   have bx:=BX.out.step lx.below
   have sl:=SX.out.step lx.below
   have rl:=lx.rowOf
   have rx5:=bx.rowOf
   have BX:=Lib.hid bx
   have SX:=Lib.hid sl
   have LX:=Lib.hid lx
   clear bx sl lx rx rs h14 h15
   obtain ⟨v,hv⟩:∃ v,v=t.depth:=⟨_,rfl⟩
   have PF:=Lib.hid (pf_6 t W5)
   rw [← hv] at PF
   have HV:=Lib.hid hv
   clear hv
   go_wp2_with fail
   refine PF.out.mono ?_
   rintro _ W6 ⟨rfl,hb6⟩
   have bx:=BX.out.step hb6
   have sl:=SX.out.step hb6
   have rl6:=(LX.out.step hb6).rowOf
   have BX:=Lib.hid bx
   have SX:=Lib.hid sl
   clear bx sl hb6 rl rx5 PF
   by_cases h1:v < 1
   ·have E:=Lib.hid (chkT_no (t:=t) (j:=6) (by decide) HA.out (by show ¬ (1 ≤ t.depth∧t.depth ≤ 20);rw [← HV.out];omega))
    go_wp2
    go_ret
    exact ⟨by rw [E.out];rfl,BX.out.below⟩
   ·by_cases h2:v > 20
    ·have E:=Lib.hid (chkT_no (t:=t) (j:=6) (by decide) HA.out (by show ¬ (1 ≤ t.depth∧t.depth ≤ 20);rw [← HV.out];omega))
     go_wp2
     go_ret
     exact ⟨by rw [E.out];rfl,BX.out.below⟩
    ·have HZ:=Lib.hid (show okT t 6 from (by show 1 ≤ t.depth∧t.depth ≤ 20;rw [← HV.out];omega))
     go_wp2
     go_roundw
     case rel=>exact ⟨6 + 1,by omega,rfl,all_succ HA.out HZ.out,BX.out,SX.out⟩
     case measure=>simp [intOf]
  | 7,_=>
   have h14:W.heap.size ≠ wr.heap.size:=by have:=(Array.getElem?_eq_some_iff.1 SX.out.row).1;omega
   have h15:w.heap.size ≠ wr.heap.size:=by have:=(Array.getElem?_eq_some_iff.1 BX.out.row).1;omega
   go_upto_region 4 with (fail)
   have lx:=Bx.made wr #[.nilFunc,.int .i64 0,.int .i64 0,.int .i64 0] #[.func (.func 167) #[] #[],.int .i64 1,.int .i64 50,.int .i64 1] 208
   generalize (wr.alloc (.cells #[.nilFunc,.int .i64 0,.int .i64 0,.int .i64 0] 208)).setRow wr.heap.size #[.func (.func 167) #[] #[],.int .i64 1,.int .i64 50,.int .i64 1]=W5 at lx ⊢
   have bx:=BX.out.step lx.below
   have sl:=SX.out.step lx.below
   have rl:=lx.rowOf
   have rx5:=bx.rowOf
   have BX:=Lib.hid bx
   have SX:=Lib.hid sl
   have LX:=Lib.hid lx
   clear bx sl lx rx rs h14 h15
   obtain ⟨v,hv⟩:∃ v,v=t.delay:=⟨_,rfl⟩
   have PF:=Lib.hid (pf_7 t W5)
   rw [← hv] at PF
   have HV:=Lib.hid hv
   clear hv
   go_wp2_with fail
   refine PF.out.mono ?_
   rintro _ W6 ⟨rfl,hb6⟩
   have bx:=BX.out.step hb6
   have sl:=SX.out.step hb6
   have rl6:=(LX.out.step hb6).rowOf
   have BX:=Lib.hid bx
   have SX:=Lib.hid sl
   clear bx sl hb6 rl rx5 PF
   by_cases h1:v < 1
   ·have E:=Lib.hid (chkT_no (t:=t) (j:=7) (by decide) HA.out (by show ¬ (1 ≤ t.delay∧t.delay ≤ 50);rw [← HV.out];omega))
    go_wp2
    go_ret
    exact ⟨by rw [E.out];rfl,BX.out.below⟩
   ·by_cases h2:v > 50
    ·have E:=Lib.hid (chkT_no (t:=t) (j:=7) (by decide) HA.out (by show ¬ (1 ≤ t.delay∧t.delay ≤ 50);rw [← HV.out];omega))
     go_wp2
     go_ret
     exact ⟨by rw [E.out];rfl,BX.out.below⟩
    ·have HZ:=Lib.hid (show okT t 7 from (by show 1 ≤ t.delay∧t.delay ≤ 50;rw [← HV.out];omega))
     go_wp2
     go_roundw
     case rel=>exact ⟨7 + 1,by omega,rfl,all_succ HA.out HZ.out,BX.out,SX.out⟩
     case measure=>simp [intOf]
  | 8,_=>
   have h14:W.heap.size ≠ wr.heap.size:=by have:=(Array.getElem?_eq_some_iff.1 SX.out.row).1;omega
   have h15:w.heap.size ≠ wr.heap.size:=by have:=(Array.getElem?_eq_some_iff.1 BX.out.row).1;omega
   go_upto_region 4 with (fail)
   have lx:=Bx.made wr #[.nilFunc,.int .i64 0,.int .i64 0,.int .i64 0] #[.func (.func 168) #[] #[],.int .i64 0,.int .i64 50,.int .i64 1] 208
   generalize (wr.alloc (.cells #[.nilFunc,.int .i64 0,.int .i64 0,.int .i64 0] 208)).setRow wr.heap.size #[.func (.func 168) #[] #[],.int .i64 0,.int .i64 50,.int .i64 1]=W5 at lx ⊢
   have bx:=BX.out.step lx.below
   have sl:=SX.out.step lx.below
   have rl:=lx.rowOf
   have rx5:=bx.rowOf
   have BX:=Lib.hid bx
   have SX:=Lib.hid sl
   have LX:=Lib.hid lx
   clear bx sl lx rx rs h14 h15
   obtain ⟨v,hv⟩:∃ v,v=t.lag:=⟨_,rfl⟩
   have PF:=Lib.hid (pf_8 t W5)
   rw [← hv] at PF
   have HV:=Lib.hid hv
   clear hv
   go_wp2_with fail
   refine PF.out.mono ?_
   rintro _ W6 ⟨rfl,hb6⟩
   have bx:=BX.out.step hb6
   have sl:=SX.out.step hb6
   have rl6:=(LX.out.step hb6).rowOf
   have BX:=Lib.hid bx
   have SX:=Lib.hid sl
   clear bx sl hb6 rl rx5 PF
   by_cases h1:v < 0
   ·have E:=Lib.hid (chkT_no (t:=t) (j:=8) (by decide) HA.out (by show ¬ (0 ≤ t.lag∧t.lag ≤ 50);rw [← HV.out];omega))
    go_wp2
    go_ret
    exact ⟨by rw [E.out];rfl,BX.out.below⟩
   ·by_cases h2:v > 50
    ·have E:=Lib.hid (chkT_no (t:=t) (j:=8) (by decide) HA.out (by show ¬ (0 ≤ t.lag∧t.lag ≤ 50);rw [← HV.out];omega))
     go_wp2
     go_ret
     exact ⟨by rw [E.out];rfl,BX.out.below⟩
    ·have HZ:=Lib.hid (show okT t 8 from (by show 0 ≤ t.lag∧t.lag ≤ 50;rw [← HV.out];omega))
     go_wp2
     go_roundw
     case rel=>exact ⟨8 + 1,by omega,rfl,all_succ HA.out HZ.out,BX.out,SX.out⟩
     case measure=>simp [intOf]
  | 9,_=>
   have h14:W.heap.size ≠ wr.heap.size:=by have:=(Array.getElem?_eq_some_iff.1 SX.out.row).1;omega
   have h15:w.heap.size ≠ wr.heap.size:=by have:=(Array.getElem?_eq_some_iff.1 BX.out.row).1;omega
   go_upto_region 4 with (fail)
   have lx:=Bx.made wr #[.nilFunc,.int .i64 0,.int .i64 0,.int .i64 0] #[.func (.func 169) #[] #[],.int .i64 1,.int .i64 10,.int .i64 1] 208
   generalize (wr.alloc (.cells #[.nilFunc,.int .i64 0,.int .i64 0,.int .i64 0] 208)).setRow wr.heap.size #[.func (.func 169) #[] #[],.int .i64 1,.int .i64 10,.int .i64 1]=W5 at lx ⊢
   have bx:=BX.out.step lx.below
   have sl:=SX.out.step lx.below
   have rl:=lx.rowOf
   have rx5:=bx.rowOf
   have BX:=Lib.hid bx
   have SX:=Lib.hid sl
   have LX:=Lib.hid lx
   clear bx sl lx rx rs h14 h15
   obtain ⟨v,hv⟩:∃ v,v=t.fast:=⟨_,rfl⟩
   have PF:=Lib.hid (pf_9 t W5)
   rw [← hv] at PF
   have HV:=Lib.hid hv
   clear hv
   go_wp2_with fail
   refine PF.out.mono ?_
   rintro _ W6 ⟨rfl,hb6⟩
   have bx:=BX.out.step hb6
   have sl:=SX.out.step hb6
   have rl6:=(LX.out.step hb6).rowOf
   have BX:=Lib.hid bx
   have SX:=Lib.hid sl
   clear bx sl hb6 rl rx5 PF
   by_cases h1:v < 1
   ·have E:=Lib.hid (chkT_no (t:=t) (j:=9) (by decide) HA.out (by show ¬ (1 ≤ t.fast∧t.fast ≤ 10);rw [← HV.out];omega))
    go_wp2
    go_ret
    exact ⟨by rw [E.out];rfl,BX.out.below⟩
   ·by_cases h2:v > 10
    ·have E:=Lib.hid (chkT_no (t:=t) (j:=9) (by decide) HA.out (by show ¬ (1 ≤ t.fast∧t.fast ≤ 10);rw [← HV.out];omega))
     go_wp2
     go_ret
     exact ⟨by rw [E.out];rfl,BX.out.below⟩
    ·have HZ:=Lib.hid (show okT t 9 from (by show 1 ≤ t.fast∧t.fast ≤ 10;rw [← HV.out];omega))
     go_wp2
     go_roundw
     case rel=>exact ⟨9 + 1,by omega,rfl,all_succ HA.out HZ.out,BX.out,SX.out⟩
     case measure=>simp [intOf]
  | 10,_=>
   have E:=Lib.hid (chkT_ok (t:=t) HA.out)
   go_wp2
   go_ret
   exact ⟨by rw [E.out];rfl,BX.out.below⟩
end Go.Proofs.YtjkfondgacjpnaaGreatDoor
