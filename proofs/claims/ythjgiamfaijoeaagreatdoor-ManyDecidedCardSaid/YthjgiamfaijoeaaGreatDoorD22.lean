/- What is proved: parts of the walk and of the plain law. No condition but those each law names. -/
import Derived.Test.YthjgiamfaijoeaaGreatDoorD21
import Derived.Test.YthjgiamfaijoeaaGreatDoorD00
set_option linter.unusedSimpArgs false
set_option linter.unusedVariables false
set_option maxRecDepth 100000
namespace Go.Proofs.YthjgiamfaijoeaaGreatDoor
open Go.RowKit
attribute [local go_sem ↓] zad
def zcl:Array Value:=#[.func (.func 236) #[] #[],.int .i64 0,.int .i64 1125899906842624,.int .i64 15,.func (.func 237) #[] #[],.int .i64 0,.int .i64 1125899906842624,.int .i64 15,.func (.func 238) #[] #[],.int .i64 1,.int .i64 1125899906842624,.int .i64 15,.func (.func 239) #[] #[],.int .i64 1,.int .i64 1125899906842624,.int .i64 15,.func (.func 240) #[] #[],.int .i64 0,.int .i64 1125899906842624,.int .i64 15,.func (.func 241) #[] #[],.int .i64 0,.int .i64 1000000,.int .i64 1,.func (.func 242) #[] #[],.int .i64 1,.int .i64 20,.int .i64 1,.func (.func 243) #[] #[],.int .i64 1,.int .i64 50,.int .i64 1,.func (.func 244) #[] #[],.int .i64 0,.int .i64 50,.int .i64 1,.func (.func 245) #[] #[],.int .i64 1,.int .i64 10,.int .i64 1]
theorem pl_0:sub zcl 0 4=#[.func (.func 236) #[] #[],.int .i64 0,.int .i64 1125899906842624,.int .i64 15]:=by kernel_rfl
theorem pl_1:sub zcl 4 4=#[.func (.func 237) #[] #[],.int .i64 0,.int .i64 1125899906842624,.int .i64 15]:=by kernel_rfl
theorem pl_2:sub zcl 8 4=#[.func (.func 238) #[] #[],.int .i64 1,.int .i64 1125899906842624,.int .i64 15]:=by kernel_rfl
theorem pl_3:sub zcl 12 4=#[.func (.func 239) #[] #[],.int .i64 1,.int .i64 1125899906842624,.int .i64 15]:=by kernel_rfl
theorem pl_4:sub zcl 16 4=#[.func (.func 240) #[] #[],.int .i64 0,.int .i64 1125899906842624,.int .i64 15]:=by kernel_rfl
theorem pl_5:sub zcl 20 4=#[.func (.func 241) #[] #[],.int .i64 0,.int .i64 1000000,.int .i64 1]:=by kernel_rfl
theorem pl_6:sub zcl 24 4=#[.func (.func 242) #[] #[],.int .i64 1,.int .i64 20,.int .i64 1]:=by kernel_rfl
theorem pl_7:sub zcl 28 4=#[.func (.func 243) #[] #[],.int .i64 1,.int .i64 50,.int .i64 1]:=by kernel_rfl
theorem pl_8:sub zcl 32 4=#[.func (.func 244) #[] #[],.int .i64 0,.int .i64 50,.int .i64 1]:=by kernel_rfl
theorem pl_9:sub zcl 36 4=#[.func (.func 245) #[] #[],.int .i64 1,.int .i64 10,.int .i64 1]:=by kernel_rfl
theorem zab0:zcl.size=40:=rfl
theorem zrm (w:World):Calls Tryz.prog 174 #[] w fun e w'=>e=.returned (.slice (some ⟨w.heap.size,0,none⟩) 10 10)∧w'=w.alloc (.cells zcl 263):=by
 go_enter Tryz.func174,Tryz.ntmps174
 go_wp2
 go_ret
 exact ⟨rfl,rfl⟩
theorem pf_0 (t:Tm) (w:World):Calls Tryz.prog 236 #[.agg t.cells] w fun e w'=>e=.returned (.int .i64 (t.base))∧Below w.heap.size w w':=by
 go_enter Tryz.func236,Tryz.ntmps236
 go_upto_region 1 with (fail)
 have bx:=Bx.new w (t.cells) 68;generalize w.alloc (.cells (t.cells) 68)=W at bx ⊢;have rx:=bx.rowOf;have sx:=bx.soft;have BX:=zadv bx;clear bx
 go_wp2
 go_ret
 exact ⟨rfl,BX.out.below⟩
theorem pf_1 (t:Tm) (w:World):Calls Tryz.prog 237 #[.agg t.cells] w fun e w'=>e=.returned (.int .i64 (t.reserve))∧Below w.heap.size w w':=by
 go_enter Tryz.func237,Tryz.ntmps237
 go_upto_region 1 with (fail)
 have bx:=Bx.new w (t.cells) 68;generalize w.alloc (.cells (t.cells) 68)=W at bx ⊢;have rx:=bx.rowOf;have sx:=bx.soft;have BX:=zadv bx;clear bx
 go_wp2
 go_ret
 exact ⟨rfl,BX.out.below⟩
theorem pf_2 (t:Tm) (w:World):Calls Tryz.prog 238 #[.agg t.cells] w fun e w'=>e=.returned (.int .i64 (t.least))∧Below w.heap.size w w':=by
 go_enter Tryz.func238,Tryz.ntmps238
 go_upto_region 1 with (fail)
 have bx:=Bx.new w (t.cells) 68;generalize w.alloc (.cells (t.cells) 68)=W at bx ⊢;have rx:=bx.rowOf;have sx:=bx.soft;have BX:=zadv bx;clear bx
 go_wp2
 go_ret
 exact ⟨rfl,BX.out.below⟩
theorem pf_3 (t:Tm) (w:World):Calls Tryz.prog 239 #[.agg t.cells] w fun e w'=>e=.returned (.int .i64 (t.most))∧Below w.heap.size w w':=by
 go_enter Tryz.func239,Tryz.ntmps239
 go_upto_region 1 with (fail)
 have bx:=Bx.new w (t.cells) 68;generalize w.alloc (.cells (t.cells) 68)=W at bx ⊢;have rx:=bx.rowOf;have sx:=bx.soft;have BX:=zadv bx;clear bx
 go_wp2
 go_ret
 exact ⟨rfl,BX.out.below⟩
theorem pf_5 (t:Tm) (w:World):Calls Tryz.prog 241 #[.agg t.cells] w fun e w'=>e=.returned (.int .i64 (t.ppm))∧Below w.heap.size w w':=by
 go_enter Tryz.func241,Tryz.ntmps241
 go_upto_region 1 with (fail)
 have bx:=Bx.new w (t.cells) 68;generalize w.alloc (.cells (t.cells) 68)=W at bx ⊢;have rx:=bx.rowOf;have sx:=bx.soft;have BX:=zadv bx;clear bx
 go_wp2
 go_ret
 exact ⟨rfl,BX.out.below⟩
theorem pf_6 (t:Tm) (w:World):Calls Tryz.prog 242 #[.agg t.cells] w fun e w'=>e=.returned (.int .i64 (t.depth))∧Below w.heap.size w w':=by
 go_enter Tryz.func242,Tryz.ntmps242
 go_upto_region 1 with (fail)
 have bx:=Bx.new w (t.cells) 68;generalize w.alloc (.cells (t.cells) 68)=W at bx ⊢;have rx:=bx.rowOf;have sx:=bx.soft;have BX:=zadv bx;clear bx
 go_wp2
 go_ret
 exact ⟨rfl,BX.out.below⟩
theorem pf_7 (t:Tm) (w:World):Calls Tryz.prog 243 #[.agg t.cells] w fun e w'=>e=.returned (.int .i64 (t.delay))∧Below w.heap.size w w':=by
 go_enter Tryz.func243,Tryz.ntmps243
 go_upto_region 1 with (fail)
 have bx:=Bx.new w (t.cells) 68;generalize w.alloc (.cells (t.cells) 68)=W at bx ⊢;have rx:=bx.rowOf;have sx:=bx.soft;have BX:=zadv bx;clear bx
 go_wp2
 go_ret
 exact ⟨rfl,BX.out.below⟩
theorem pf_8 (t:Tm) (w:World):Calls Tryz.prog 244 #[.agg t.cells] w fun e w'=>e=.returned (.int .i64 (t.lag))∧Below w.heap.size w w':=by
 go_enter Tryz.func244,Tryz.ntmps244
 go_upto_region 1 with (fail)
 have bx:=Bx.new w (t.cells) 68;generalize w.alloc (.cells (t.cells) 68)=W at bx ⊢;have rx:=bx.rowOf;have sx:=bx.soft;have BX:=zadv bx;clear bx
 go_wp2
 go_ret
 exact ⟨rfl,BX.out.below⟩
theorem pf_9 (t:Tm) (w:World):Calls Tryz.prog 245 #[.agg t.cells] w fun e w'=>e=.returned (.int .i64 (t.fast))∧Below w.heap.size w w':=by
 go_enter Tryz.func245,Tryz.ntmps245
 go_upto_region 1 with (fail)
 have bx:=Bx.new w (t.cells) 68;generalize w.alloc (.cells (t.cells) 68)=W at bx ⊢;have rx:=bx.rowOf;have sx:=bx.soft;have BX:=zadv bx;clear bx
 go_wp2
 go_ret
 exact ⟨rfl,BX.out.below⟩
theorem pf_4 (t:Tm) (w:World):Calls Tryz.prog 240 #[.agg t.cells] w fun e w'=>e=.returned (.int .i64 (wrap64 (min t.most 1125899906842624 - max t.least 1)))∧Below w.heap.size w w':=by
 go_enter Tryz.func240,Tryz.ntmps240
 go_upto_region 1 with (fail)
 have bx:=Bx.new w (t.cells) 68;generalize w.alloc (.cells (t.cells) 68)=W at bx ⊢;have rx:=bx.rowOf;have sx:=bx.soft;have BX:=zadv bx;clear bx
 go_wp2
 go_ret
 exact ⟨rfl,BX.out.below⟩
def vT (t:Tm):Nat→Int
 | 0=>t.base
 | 1=>t.reserve
 | 2=>t.least
 | 3=>t.most
 | 4=>wrap64 (min t.most 1125899906842624 - max t.least 1)
 | 5=>t.ppm
 | 6=>t.depth
 | 7=>t.delay
 | 8=>t.lag
 | 9=>t.fast
 | _=>0
def loT:Nat→Int
 | 0=>0
 | 1=>0
 | 2=>1
 | 3=>1
 | 4=>0
 | 5=>0
 | 6=>1
 | 7=>1
 | 8=>0
 | 9=>1
 | _=>0
def hiT:Nat→Int
 | 0=>1125899906842624
 | 1=>1125899906842624
 | 2=>1125899906842624
 | 3=>1125899906842624
 | 4=>1125899906842624
 | 5=>1000000
 | 6=>20
 | 7=>50
 | 8=>50
 | 9=>10
 | _=>0
def noT:Nat→Int
 | 0=>15
 | 1=>15
 | 2=>15
 | 3=>15
 | 4=>15
 | 5=>1
 | 6=>1
 | 7=>1
 | 8=>1
 | 9=>1
 | _=>0
def okT (t:Tm) (j:Nat):Prop:=loT j ≤ vT t j∧vT t j ≤ hiT j
instance (t:Tm) (j:Nat):Decidable (okT t j):=inferInstanceAs (Decidable (_∧_))
def chkF (t:Tm):Nat→Int
 | 0=>0
 | k + 1=>if okT t (9 - k) then chkF t k else noT (9 - k)
def chkT (t:Tm):Int:=chkF t 10
theorem zbl {t:Tm} {j:Nat} (hj:j < 10) (h:∀ i,i < j→okT t i) (hn:¬ okT t j):chkT t=noT j:=by
 have:∀ k,k ≤ 10→10 - k ≤ j→chkF t k=noT j:=by
  intro k
  induction k with
  | zero=>intro _ h2;omega
  | succ k ih=>
   intro h1 h2
   unfold chkF
   by_cases e:9 - k=j
   ·rw [e,if_neg hn]
   ·rw [if_pos (h (9 - k) (by omega)),ih (by omega) (by omega)]
 exact this 10 (zadw _) (by omega)
theorem zab1 {t:Tm} (h:∀ i,i < 10→okT t i):chkT t=0:=by
 have:∀ k,k ≤ 10→chkF t k=0:=by
  intro k
  induction k with
  | zero=>intro _;rfl
  | succ k ih=>
   intro h1
   unfold chkF
   rw [if_pos (h (9 - k) (by omega)),ih (by omega)]
 exact this 10 (zadw _)
theorem zab2 (w:World) (ρ:Operand→Value) (x:Operand) (dst:Option Tmp) (ty:TypeId) (pos:String) (af:Array Edge) (gd:Option (Nat × Bool)) (hp:pp (ρ x)=true) (h:po (ρ x) + 4 ≤ (rowOf w (pb (ρ x))).size):(execOp ρ ⟨dst,.load 263 x,ty,pos,af,gd⟩).run Tryz.prog w=.ok (.value (.agg (sub (rowOf w (pb (ρ x))) (po (ρ x)) 4))) w:=
 zav 263 4 Tryz.underlying263 rfl (by kernel_rfl) w ρ x dst ty pos af gd hp h
theorem zxv (w:World) (ρ:Operand→Value) (x y:Operand) (dst:Option Tmp) (ty:TypeId) (pos:String) (af:Array Edge) (gd:Option (Nat × Bool)) (hp:pp (ρ x)=true) (h0:po (ρ x)=0) (hv:isAg (ρ y)=true) (hs:soft w (pb (ρ x))=true) (hr:(rowOf w (pb (ρ x))).size=4) (hn:(agc (ρ y)).size=4) (h1:ones (agc (ρ y))=true):
  (execOp ρ ⟨dst,.store 263 x y,ty,pos,af,gd⟩).run Tryz.prog w=.ok .skip (w.setRow (pb (ρ x)) (agc (ρ y))):=
 za3 263 4 (by kernel_rfl) w ρ x y dst ty pos af gd hp h0 hv hs hr hn h1
theorem pl_one (f:Nat) (a b c:Int):ones #[.func (.func f) #[] #[],.int .i64 a,.int .i64 b,.int .i64 c]=true:=by simp [ones,Value.oneCell']
attribute [local go_sem ↓] zab2 zxv
attribute [local go_sem] pl_one zab0 pl_0 pl_1 pl_2 pl_3 pl_4 pl_5 pl_6 pl_7 pl_8 pl_9
attribute [local go_sem] zaf zai
set_option maxHeartbeats 4000000 in
theorem zet (t:Tm) (w:World):Calls Tryz.prog 110 #[.agg t.cells] w fun e w'=>e=.returned (.int .i64 (chkT t))∧Below w.heap.size w w':=by
 go_enter Tryz.func110,Tryz.ntmps110
 go_upto_region 1 with (fail)
 have bx:=Bx.new w (t.cells) 68;generalize w.alloc (.cells (t.cells) 68)=W at bx ⊢;have rx:=bx.rowOf;have sx:=bx.soft;have BX:=zadv bx;clear bx
 go_wp2_with fail
 refine (zrm _).mono ?_
 rintro _ _ ⟨rfl,rfl⟩
 go_wp2_with fail
 go_loopw [8] (fun v8 wr=>∃ j:Nat,j ≤ 10∧v8=.int .i64 j∧(∀ i,i < j→okT t i)∧Bx w t.cells 68 wr∧Bx W zcl 263 wr) (fun v8 _=>10 - (intOf v8).toNat)
 case atStart=>exact ⟨0,by omega,rfl,fun i h=>absurd h (by omega),BX.out.step (zat W _),Bx.new W _ _⟩
 case round=>
  obtain ⟨j,hj,rfl,hall,bx,sl⟩:=hrel
  have rx:=bx.rowOf
  have rs:=sl.rowOf
  have BX:=zadv bx
  have SX:=zadv sl
  have HA:=zadv hall
  clear bx sl hall
  match j,hj with
  | 0,_=>
   have h14:W.heap.size ≠ wr.heap.size:=by have:=(zadu SX.out.row).1;omega
   have h15:w.heap.size ≠ wr.heap.size:=by have:=(zadu BX.out.row).1;omega
   go_upto_region 4 with (fail)
   have lx:=Bx.made wr #[.nilFunc,.int .i64 0,.int .i64 0,.int .i64 0] #[.func (.func 236) #[] #[],.int .i64 0,.int .i64 1125899906842624,.int .i64 15] 263
   generalize (wr.alloc (.cells #[.nilFunc,.int .i64 0,.int .i64 0,.int .i64 0] 263)).setRow wr.heap.size #[.func (.func 236) #[] #[],.int .i64 0,.int .i64 1125899906842624,.int .i64 15]=W5 at lx ⊢
   have bx:=BX.out.step lx.below
   have sl:=SX.out.step lx.below
   have rl:=lx.rowOf
   have rx5:=bx.rowOf
   have BX:=zadv bx
   have SX:=zadv sl
   have LX:=zadv lx
   clear bx sl lx rx rs h14 h15
   obtain ⟨v,hv⟩:∃ v,v=t.base:=⟨_,rfl⟩
   have PF:=zadv (pf_0 t W5)
   rw [← hv] at PF
   have HV:=zadv hv
   clear hv
   go_wp2_with fail
   refine PF.out.mono ?_
   rintro _ W6 ⟨rfl,hb6⟩
   have bx:=BX.out.step hb6
   have sl:=SX.out.step hb6
   have rl6:=(LX.out.step hb6).rowOf
   have BX:=zadv bx
   have SX:=zadv sl
   clear bx sl hb6 rl rx5 PF
   by_cases h1:v < 0
   ·have E:=zadv (zbl (t:=t) (j:=0) (by decide) HA.out (by show ¬ (0 ≤ t.base∧t.base ≤ 1125899906842624);rw [← HV.out];omega))
    go_wp2
    go_ret
    exact ⟨by rw [E.out];rfl,BX.out.below⟩
   ·by_cases h2:v > 1125899906842624
    ·have E:=zadv (zbl (t:=t) (j:=0) (by decide) HA.out (by show ¬ (0 ≤ t.base∧t.base ≤ 1125899906842624);rw [← HV.out];omega))
     go_wp2
     go_ret
     exact ⟨by rw [E.out];rfl,BX.out.below⟩
    ·have HZ:=zadv (show okT t 0 from (by show 0 ≤ t.base∧t.base ≤ 1125899906842624;rw [← HV.out];omega))
     go_wp2
     go_roundw
     case rel=>exact ⟨0 + 1,by omega,rfl,zb8 HA.out HZ.out,BX.out,SX.out⟩
     case measure=>simp [intOf]
  | 1,_=>
   have h14:W.heap.size ≠ wr.heap.size:=by have:=(zadu SX.out.row).1;omega
   have h15:w.heap.size ≠ wr.heap.size:=by have:=(zadu BX.out.row).1;omega
   go_upto_region 4 with (fail)
   have lx:=Bx.made wr #[.nilFunc,.int .i64 0,.int .i64 0,.int .i64 0] #[.func (.func 237) #[] #[],.int .i64 0,.int .i64 1125899906842624,.int .i64 15] 263
   generalize (wr.alloc (.cells #[.nilFunc,.int .i64 0,.int .i64 0,.int .i64 0] 263)).setRow wr.heap.size #[.func (.func 237) #[] #[],.int .i64 0,.int .i64 1125899906842624,.int .i64 15]=W5 at lx ⊢
   have bx:=BX.out.step lx.below
   have sl:=SX.out.step lx.below
   have rl:=lx.rowOf
   have rx5:=bx.rowOf
   have BX:=zadv bx
   have SX:=zadv sl
   have LX:=zadv lx
   clear bx sl lx rx rs h14 h15
   obtain ⟨v,hv⟩:∃ v,v=t.reserve:=⟨_,rfl⟩
   have PF:=zadv (pf_1 t W5)
   rw [← hv] at PF
   have HV:=zadv hv
   clear hv
   go_wp2_with fail
   refine PF.out.mono ?_
   rintro _ W6 ⟨rfl,hb6⟩
   have bx:=BX.out.step hb6
   have sl:=SX.out.step hb6
   have rl6:=(LX.out.step hb6).rowOf
   have BX:=zadv bx
   have SX:=zadv sl
   clear bx sl hb6 rl rx5 PF
   by_cases h1:v < 0
   ·have E:=zadv (zbl (t:=t) (j:=1) (by decide) HA.out (by show ¬ (0 ≤ t.reserve∧t.reserve ≤ 1125899906842624);rw [← HV.out];omega))
    go_wp2
    go_ret
    exact ⟨by rw [E.out];rfl,BX.out.below⟩
   ·by_cases h2:v > 1125899906842624
    ·have E:=zadv (zbl (t:=t) (j:=1) (by decide) HA.out (by show ¬ (0 ≤ t.reserve∧t.reserve ≤ 1125899906842624);rw [← HV.out];omega))
     go_wp2
     go_ret
     exact ⟨by rw [E.out];rfl,BX.out.below⟩
    ·have HZ:=zadv (show okT t 1 from (by show 0 ≤ t.reserve∧t.reserve ≤ 1125899906842624;rw [← HV.out];omega))
     go_wp2
     go_roundw
     case rel=>exact ⟨1 + 1,by omega,rfl,zb8 HA.out HZ.out,BX.out,SX.out⟩
     case measure=>simp [intOf]
  | 2,_=>
   have h14:W.heap.size ≠ wr.heap.size:=by have:=(zadu SX.out.row).1;omega
   have h15:w.heap.size ≠ wr.heap.size:=by have:=(zadu BX.out.row).1;omega
   go_upto_region 4 with (fail)
   have lx:=Bx.made wr #[.nilFunc,.int .i64 0,.int .i64 0,.int .i64 0] #[.func (.func 238) #[] #[],.int .i64 1,.int .i64 1125899906842624,.int .i64 15] 263
   generalize (wr.alloc (.cells #[.nilFunc,.int .i64 0,.int .i64 0,.int .i64 0] 263)).setRow wr.heap.size #[.func (.func 238) #[] #[],.int .i64 1,.int .i64 1125899906842624,.int .i64 15]=W5 at lx ⊢
   have bx:=BX.out.step lx.below
   have sl:=SX.out.step lx.below
   have rl:=lx.rowOf
   have rx5:=bx.rowOf
   have BX:=zadv bx
   have SX:=zadv sl
   have LX:=zadv lx
   clear bx sl lx rx rs h14 h15
   obtain ⟨v,hv⟩:∃ v,v=t.least:=⟨_,rfl⟩
   have PF:=zadv (pf_2 t W5)
   rw [← hv] at PF
   have HV:=zadv hv
   clear hv
   go_wp2_with fail
   refine PF.out.mono ?_
   rintro _ W6 ⟨rfl,hb6⟩
   have bx:=BX.out.step hb6
   have sl:=SX.out.step hb6
   have rl6:=(LX.out.step hb6).rowOf
   have BX:=zadv bx
   have SX:=zadv sl
   clear bx sl hb6 rl rx5 PF
   by_cases h1:v < 1
   ·have E:=zadv (zbl (t:=t) (j:=2) (by decide) HA.out (by show ¬ (1 ≤ t.least∧t.least ≤ 1125899906842624);rw [← HV.out];omega))
    go_wp2
    go_ret
    exact ⟨by rw [E.out];rfl,BX.out.below⟩
   ·by_cases h2:v > 1125899906842624
    ·have E:=zadv (zbl (t:=t) (j:=2) (by decide) HA.out (by show ¬ (1 ≤ t.least∧t.least ≤ 1125899906842624);rw [← HV.out];omega))
     go_wp2
     go_ret
     exact ⟨by rw [E.out];rfl,BX.out.below⟩
    ·have HZ:=zadv (show okT t 2 from (by show 1 ≤ t.least∧t.least ≤ 1125899906842624;rw [← HV.out];omega))
     go_wp2
     go_roundw
     case rel=>exact ⟨2 + 1,by omega,rfl,zb8 HA.out HZ.out,BX.out,SX.out⟩
     case measure=>simp [intOf]
  | 3,_=>
   have h14:W.heap.size ≠ wr.heap.size:=by have:=(zadu SX.out.row).1;omega
   have h15:w.heap.size ≠ wr.heap.size:=by have:=(zadu BX.out.row).1;omega
   go_upto_region 4 with (fail)
   have lx:=Bx.made wr #[.nilFunc,.int .i64 0,.int .i64 0,.int .i64 0] #[.func (.func 239) #[] #[],.int .i64 1,.int .i64 1125899906842624,.int .i64 15] 263
   generalize (wr.alloc (.cells #[.nilFunc,.int .i64 0,.int .i64 0,.int .i64 0] 263)).setRow wr.heap.size #[.func (.func 239) #[] #[],.int .i64 1,.int .i64 1125899906842624,.int .i64 15]=W5 at lx ⊢
   have bx:=BX.out.step lx.below
   have sl:=SX.out.step lx.below
   have rl:=lx.rowOf
   have rx5:=bx.rowOf
   have BX:=zadv bx
   have SX:=zadv sl
   have LX:=zadv lx
   clear bx sl lx rx rs h14 h15
   obtain ⟨v,hv⟩:∃ v,v=t.most:=⟨_,rfl⟩
   have PF:=zadv (pf_3 t W5)
   rw [← hv] at PF
   have HV:=zadv hv
   clear hv
   go_wp2_with fail
   refine PF.out.mono ?_
   rintro _ W6 ⟨rfl,hb6⟩
   have bx:=BX.out.step hb6
   have sl:=SX.out.step hb6
   have rl6:=(LX.out.step hb6).rowOf
   have BX:=zadv bx
   have SX:=zadv sl
   clear bx sl hb6 rl rx5 PF
   by_cases h1:v < 1
   ·have E:=zadv (zbl (t:=t) (j:=3) (by decide) HA.out (by show ¬ (1 ≤ t.most∧t.most ≤ 1125899906842624);rw [← HV.out];omega))
    go_wp2
    go_ret
    exact ⟨by rw [E.out];rfl,BX.out.below⟩
   ·by_cases h2:v > 1125899906842624
    ·have E:=zadv (zbl (t:=t) (j:=3) (by decide) HA.out (by show ¬ (1 ≤ t.most∧t.most ≤ 1125899906842624);rw [← HV.out];omega))
     go_wp2
     go_ret
     exact ⟨by rw [E.out];rfl,BX.out.below⟩
    ·have HZ:=zadv (show okT t 3 from (by show 1 ≤ t.most∧t.most ≤ 1125899906842624;rw [← HV.out];omega))
     go_wp2
     go_roundw
     case rel=>exact ⟨3 + 1,by omega,rfl,zb8 HA.out HZ.out,BX.out,SX.out⟩
     case measure=>simp [intOf]
  | 4,_=>
   have h14:W.heap.size ≠ wr.heap.size:=by have:=(zadu SX.out.row).1;omega
   have h15:w.heap.size ≠ wr.heap.size:=by have:=(zadu BX.out.row).1;omega
   go_upto_region 4 with (fail)
   have lx:=Bx.made wr #[.nilFunc,.int .i64 0,.int .i64 0,.int .i64 0] #[.func (.func 240) #[] #[],.int .i64 0,.int .i64 1125899906842624,.int .i64 15] 263
   generalize (wr.alloc (.cells #[.nilFunc,.int .i64 0,.int .i64 0,.int .i64 0] 263)).setRow wr.heap.size #[.func (.func 240) #[] #[],.int .i64 0,.int .i64 1125899906842624,.int .i64 15]=W5 at lx ⊢
   have bx:=BX.out.step lx.below
   have sl:=SX.out.step lx.below
   have rl:=lx.rowOf
   have rx5:=bx.rowOf
   have BX:=zadv bx
   have SX:=zadv sl
   have LX:=zadv lx
   clear bx sl lx rx rs h14 h15
   obtain ⟨v,hv⟩:∃ v,v=wrap64 (min t.most 1125899906842624 - max t.least 1):=⟨_,rfl⟩
   have PF:=zadv (pf_4 t W5)
   rw [← hv] at PF
   have HV:=zadv hv
   clear hv
   go_wp2_with fail
   refine PF.out.mono ?_
   rintro _ W6 ⟨rfl,hb6⟩
   have bx:=BX.out.step hb6
   have sl:=SX.out.step hb6
   have rl6:=(LX.out.step hb6).rowOf
   have BX:=zadv bx
   have SX:=zadv sl
   clear bx sl hb6 rl rx5 PF
   by_cases h1:v < 0
   ·have E:=zadv (zbl (t:=t) (j:=4) (by decide) HA.out (by show ¬ (0 ≤ wrap64 (min t.most 1125899906842624 - max t.least 1)∧wrap64 (min t.most 1125899906842624 - max t.least 1) ≤ 1125899906842624);rw [← HV.out];omega))
    go_wp2
    go_ret
    exact ⟨by rw [E.out];rfl,BX.out.below⟩
   ·by_cases h2:v > 1125899906842624
    ·have E:=zadv (zbl (t:=t) (j:=4) (by decide) HA.out (by show ¬ (0 ≤ wrap64 (min t.most 1125899906842624 - max t.least 1)∧wrap64 (min t.most 1125899906842624 - max t.least 1) ≤ 1125899906842624);rw [← HV.out];omega))
     go_wp2
     go_ret
     exact ⟨by rw [E.out];rfl,BX.out.below⟩
    ·have HZ:=zadv (show okT t 4 from (by show 0 ≤ wrap64 (min t.most 1125899906842624 - max t.least 1)∧wrap64 (min t.most 1125899906842624 - max t.least 1) ≤ 1125899906842624;rw [← HV.out];omega))
     go_wp2
     go_roundw
     case rel=>exact ⟨4 + 1,by omega,rfl,zb8 HA.out HZ.out,BX.out,SX.out⟩
     case measure=>simp [intOf]
  | 5,_=>
   have h14:W.heap.size ≠ wr.heap.size:=by have:=(zadu SX.out.row).1;omega
   have h15:w.heap.size ≠ wr.heap.size:=by have:=(zadu BX.out.row).1;omega
   go_upto_region 4 with (fail)
   have lx:=Bx.made wr #[.nilFunc,.int .i64 0,.int .i64 0,.int .i64 0] #[.func (.func 241) #[] #[],.int .i64 0,.int .i64 1000000,.int .i64 1] 263
   generalize (wr.alloc (.cells #[.nilFunc,.int .i64 0,.int .i64 0,.int .i64 0] 263)).setRow wr.heap.size #[.func (.func 241) #[] #[],.int .i64 0,.int .i64 1000000,.int .i64 1]=W5 at lx ⊢
   have bx:=BX.out.step lx.below
   have sl:=SX.out.step lx.below
   have rl:=lx.rowOf
   have rx5:=bx.rowOf
   have BX:=zadv bx
   have SX:=zadv sl
   have LX:=zadv lx
   clear bx sl lx rx rs h14 h15
   obtain ⟨v,hv⟩:∃ v,v=t.ppm:=⟨_,rfl⟩
   have PF:=zadv (pf_5 t W5)
   rw [← hv] at PF
   have HV:=zadv hv
   clear hv
   go_wp2_with fail
   refine PF.out.mono ?_
   rintro _ W6 ⟨rfl,hb6⟩
   have bx:=BX.out.step hb6
   have sl:=SX.out.step hb6
   have rl6:=(LX.out.step hb6).rowOf
   have BX:=zadv bx
   have SX:=zadv sl
   clear bx sl hb6 rl rx5 PF
   by_cases h1:v < 0
   ·have E:=zadv (zbl (t:=t) (j:=5) (by decide) HA.out (by show ¬ (0 ≤ t.ppm∧t.ppm ≤ 1000000);rw [← HV.out];omega))
    go_wp2
    go_ret
    exact ⟨by rw [E.out];rfl,BX.out.below⟩
   ·by_cases h2:v > 1000000
    ·have E:=zadv (zbl (t:=t) (j:=5) (by decide) HA.out (by show ¬ (0 ≤ t.ppm∧t.ppm ≤ 1000000);rw [← HV.out];omega))
     go_wp2
     go_ret
     exact ⟨by rw [E.out];rfl,BX.out.below⟩
    ·have HZ:=zadv (show okT t 5 from (by show 0 ≤ t.ppm∧t.ppm ≤ 1000000;rw [← HV.out];omega))
     go_wp2
     go_roundw
     case rel=>exact ⟨5 + 1,by omega,rfl,zb8 HA.out HZ.out,BX.out,SX.out⟩
     case measure=>simp [intOf]
  | 6,_=>
   have h14:W.heap.size ≠ wr.heap.size:=by have:=(zadu SX.out.row).1;omega
   have h15:w.heap.size ≠ wr.heap.size:=by have:=(zadu BX.out.row).1;omega
   go_upto_region 4 with (fail)
   have lx:=Bx.made wr #[.nilFunc,.int .i64 0,.int .i64 0,.int .i64 0] #[.func (.func 242) #[] #[],.int .i64 1,.int .i64 20,.int .i64 1] 263
   generalize (wr.alloc (.cells #[.nilFunc,.int .i64 0,.int .i64 0,.int .i64 0] 263)).setRow wr.heap.size #[.func (.func 242) #[] #[],.int .i64 1,.int .i64 20,.int .i64 1]=W5 at lx ⊢
   have bx:=BX.out.step lx.below
   have sl:=SX.out.step lx.below
   have rl:=lx.rowOf
   have rx5:=bx.rowOf
   have BX:=zadv bx
   have SX:=zadv sl
   have LX:=zadv lx
   clear bx sl lx rx rs h14 h15
   obtain ⟨v,hv⟩:∃ v,v=t.depth:=⟨_,rfl⟩
   have PF:=zadv (pf_6 t W5)
   rw [← hv] at PF
   have HV:=zadv hv
   clear hv
   go_wp2_with fail
   refine PF.out.mono ?_
   rintro _ W6 ⟨rfl,hb6⟩
   have bx:=BX.out.step hb6
   have sl:=SX.out.step hb6
   have rl6:=(LX.out.step hb6).rowOf
   have BX:=zadv bx
   have SX:=zadv sl
   clear bx sl hb6 rl rx5 PF
   by_cases h1:v < 1
   ·have E:=zadv (zbl (t:=t) (j:=6) (by decide) HA.out (by show ¬ (1 ≤ t.depth∧t.depth ≤ 20);rw [← HV.out];omega))
    go_wp2
    go_ret
    exact ⟨by rw [E.out];rfl,BX.out.below⟩
   ·by_cases h2:v > 20
    ·have E:=zadv (zbl (t:=t) (j:=6) (by decide) HA.out (by show ¬ (1 ≤ t.depth∧t.depth ≤ 20);rw [← HV.out];omega))
     go_wp2
     go_ret
     exact ⟨by rw [E.out];rfl,BX.out.below⟩
    ·have HZ:=zadv (show okT t 6 from (by show 1 ≤ t.depth∧t.depth ≤ 20;rw [← HV.out];omega))
     go_wp2
     go_roundw
     case rel=>exact ⟨6 + 1,by omega,rfl,zb8 HA.out HZ.out,BX.out,SX.out⟩
     case measure=>simp [intOf]
  | 7,_=>
   have h14:W.heap.size ≠ wr.heap.size:=by have:=(zadu SX.out.row).1;omega
   have h15:w.heap.size ≠ wr.heap.size:=by have:=(zadu BX.out.row).1;omega
   go_upto_region 4 with (fail)
   have lx:=Bx.made wr #[.nilFunc,.int .i64 0,.int .i64 0,.int .i64 0] #[.func (.func 243) #[] #[],.int .i64 1,.int .i64 50,.int .i64 1] 263
   generalize (wr.alloc (.cells #[.nilFunc,.int .i64 0,.int .i64 0,.int .i64 0] 263)).setRow wr.heap.size #[.func (.func 243) #[] #[],.int .i64 1,.int .i64 50,.int .i64 1]=W5 at lx ⊢
   have bx:=BX.out.step lx.below
   have sl:=SX.out.step lx.below
   have rl:=lx.rowOf
   have rx5:=bx.rowOf
   have BX:=zadv bx
   have SX:=zadv sl
   have LX:=zadv lx
   clear bx sl lx rx rs h14 h15
   obtain ⟨v,hv⟩:∃ v,v=t.delay:=⟨_,rfl⟩
   have PF:=zadv (pf_7 t W5)
   rw [← hv] at PF
   have HV:=zadv hv
   clear hv
   go_wp2_with fail
   refine PF.out.mono ?_
   rintro _ W6 ⟨rfl,hb6⟩
   have bx:=BX.out.step hb6
   have sl:=SX.out.step hb6
   have rl6:=(LX.out.step hb6).rowOf
   have BX:=zadv bx
   have SX:=zadv sl
   clear bx sl hb6 rl rx5 PF
   by_cases h1:v < 1
   ·have E:=zadv (zbl (t:=t) (j:=7) (by decide) HA.out (by show ¬ (1 ≤ t.delay∧t.delay ≤ 50);rw [← HV.out];omega))
    go_wp2
    go_ret
    exact ⟨by rw [E.out];rfl,BX.out.below⟩
   ·by_cases h2:v > 50
    ·have E:=zadv (zbl (t:=t) (j:=7) (by decide) HA.out (by show ¬ (1 ≤ t.delay∧t.delay ≤ 50);rw [← HV.out];omega))
     go_wp2
     go_ret
     exact ⟨by rw [E.out];rfl,BX.out.below⟩
    ·have HZ:=zadv (show okT t 7 from (by show 1 ≤ t.delay∧t.delay ≤ 50;rw [← HV.out];omega))
     go_wp2
     go_roundw
     case rel=>exact ⟨7 + 1,by omega,rfl,zb8 HA.out HZ.out,BX.out,SX.out⟩
     case measure=>simp [intOf]
  | 8,_=>
   have h14:W.heap.size ≠ wr.heap.size:=by have:=(zadu SX.out.row).1;omega
   have h15:w.heap.size ≠ wr.heap.size:=by have:=(zadu BX.out.row).1;omega
   go_upto_region 4 with (fail)
   have lx:=Bx.made wr #[.nilFunc,.int .i64 0,.int .i64 0,.int .i64 0] #[.func (.func 244) #[] #[],.int .i64 0,.int .i64 50,.int .i64 1] 263
   generalize (wr.alloc (.cells #[.nilFunc,.int .i64 0,.int .i64 0,.int .i64 0] 263)).setRow wr.heap.size #[.func (.func 244) #[] #[],.int .i64 0,.int .i64 50,.int .i64 1]=W5 at lx ⊢
   have bx:=BX.out.step lx.below
   have sl:=SX.out.step lx.below
   have rl:=lx.rowOf
   have rx5:=bx.rowOf
   have BX:=zadv bx
   have SX:=zadv sl
   have LX:=zadv lx
   clear bx sl lx rx rs h14 h15
   obtain ⟨v,hv⟩:∃ v,v=t.lag:=⟨_,rfl⟩
   have PF:=zadv (pf_8 t W5)
   rw [← hv] at PF
   have HV:=zadv hv
   clear hv
   go_wp2_with fail
   refine PF.out.mono ?_
   rintro _ W6 ⟨rfl,hb6⟩
   have bx:=BX.out.step hb6
   have sl:=SX.out.step hb6
   have rl6:=(LX.out.step hb6).rowOf
   have BX:=zadv bx
   have SX:=zadv sl
   clear bx sl hb6 rl rx5 PF
   by_cases h1:v < 0
   ·have E:=zadv (zbl (t:=t) (j:=8) (by decide) HA.out (by show ¬ (0 ≤ t.lag∧t.lag ≤ 50);rw [← HV.out];omega))
    go_wp2
    go_ret
    exact ⟨by rw [E.out];rfl,BX.out.below⟩
   ·by_cases h2:v > 50
    ·have E:=zadv (zbl (t:=t) (j:=8) (by decide) HA.out (by show ¬ (0 ≤ t.lag∧t.lag ≤ 50);rw [← HV.out];omega))
     go_wp2
     go_ret
     exact ⟨by rw [E.out];rfl,BX.out.below⟩
    ·have HZ:=zadv (show okT t 8 from (by show 0 ≤ t.lag∧t.lag ≤ 50;rw [← HV.out];omega))
     go_wp2
     go_roundw
     case rel=>exact ⟨8 + 1,by omega,rfl,zb8 HA.out HZ.out,BX.out,SX.out⟩
     case measure=>simp [intOf]
  | 9,_=>
   have h14:W.heap.size ≠ wr.heap.size:=by have:=(zadu SX.out.row).1;omega
   have h15:w.heap.size ≠ wr.heap.size:=by have:=(zadu BX.out.row).1;omega
   go_upto_region 4 with (fail)
   have lx:=Bx.made wr #[.nilFunc,.int .i64 0,.int .i64 0,.int .i64 0] #[.func (.func 245) #[] #[],.int .i64 1,.int .i64 10,.int .i64 1] 263
   generalize (wr.alloc (.cells #[.nilFunc,.int .i64 0,.int .i64 0,.int .i64 0] 263)).setRow wr.heap.size #[.func (.func 245) #[] #[],.int .i64 1,.int .i64 10,.int .i64 1]=W5 at lx ⊢
   have bx:=BX.out.step lx.below
   have sl:=SX.out.step lx.below
   have rl:=lx.rowOf
   have rx5:=bx.rowOf
   have BX:=zadv bx
   have SX:=zadv sl
   have LX:=zadv lx
   clear bx sl lx rx rs h14 h15
   obtain ⟨v,hv⟩:∃ v,v=t.fast:=⟨_,rfl⟩
   have PF:=zadv (pf_9 t W5)
   rw [← hv] at PF
   have HV:=zadv hv
   clear hv
   go_wp2_with fail
   refine PF.out.mono ?_
   rintro _ W6 ⟨rfl,hb6⟩
   have bx:=BX.out.step hb6
   have sl:=SX.out.step hb6
   have rl6:=(LX.out.step hb6).rowOf
   have BX:=zadv bx
   have SX:=zadv sl
   clear bx sl hb6 rl rx5 PF
   by_cases h1:v < 1
   ·have E:=zadv (zbl (t:=t) (j:=9) (by decide) HA.out (by show ¬ (1 ≤ t.fast∧t.fast ≤ 10);rw [← HV.out];omega))
    go_wp2
    go_ret
    exact ⟨by rw [E.out];rfl,BX.out.below⟩
   ·by_cases h2:v > 10
    ·have E:=zadv (zbl (t:=t) (j:=9) (by decide) HA.out (by show ¬ (1 ≤ t.fast∧t.fast ≤ 10);rw [← HV.out];omega))
     go_wp2
     go_ret
     exact ⟨by rw [E.out];rfl,BX.out.below⟩
    ·have HZ:=zadv (show okT t 9 from (by show 1 ≤ t.fast∧t.fast ≤ 10;rw [← HV.out];omega))
     go_wp2
     go_roundw
     case rel=>exact ⟨9 + 1,by omega,rfl,zb8 HA.out HZ.out,BX.out,SX.out⟩
     case measure=>simp [intOf]
  | 10,_=>
   have E:=zadv (zab1 (t:=t) HA.out)
   go_wp2
   go_ret
   exact ⟨by rw [E.out];rfl,BX.out.below⟩
end Go.Proofs.YthjgiamfaijoeaaGreatDoor
