/- What is proved: parts of the walk and of the plain law, 3 texts in one. No condition but those each law names. -/
import Derived.Test.YtjkfondgacjpnaaGreatDoorF50
import Derived.Test.YtjkfondgacjpnaaGreatDoorRows
import Derived.Lib.LaidTab
import Derived.Lib.LaidU8
import Derived.LaidMore
import Derived.OpenShut
import Derived.Stop.Joined
import Derived.Test.YtjkfondgacjpnaaGreatDoorCards
import Derived.Test.YtjkfondgacjpnaaGreatDoorTie
import Derived.ProofKit
import Derived.Lay
import Derived.DataReads
import Derived.ChangeSlices
import Derived.Clock
namespace Go.Proofs.YtjkfondgacjpnaaGreatDoor
open Go.RowKit
open Sx (Ab DW Turns Did Foot MapIs)
set_option maxRecDepth 100000
attribute [local go_sem ↓] rowOf_cell
attribute [local go_sem] rowOf_alloc soft_alloc rowOf_drew soft_drew rowOf_setRow soft_setRow rowOf_setCell soft_setCell frozen_of_soft rowOf_map soft_map Sx.run_mk Ext.row Ext.soft_
set_option maxHeartbeats 8000000 in
theorem fails_false {w:World} (hF:Forms w) (hT:Tabs w) {bh:Int} {ao:Option Addr} {cc:Nat} {K:List Int} (HK:K.length ≤ 100→KeepAt w ao K):Calls Tryz.prog 3 #[.int .i64 bh,.slice ao K.length cc,.bool false] w fun e w'=>e=.returned (.bool true)∧Below w.heap.size w w':=by
 obtain ⟨lf,hlf⟩:=least_ex
 have LF:=Lib.hid hlf
 have HF:=Lib.hid (And.intro hF hT)
 have KP:=Lib.hid HK
 clear hF hT HK hlf
 go_enter Tryz.func3,Tryz.ntmps3
 go_upto_region 3 with (first
  | (go_at_call 5;refine (made_wx (n:=2) ⟨by decide,by decide⟩ HF.out.1 HF.out.2).mono ?_;rintro _ W ⟨c,sd,rfl,cn,wx,hu⟩;have WA:=Lib.hid (And.intro cn (And.intro wx hu));clear cn wx hu)
  | (go_at_call 6;refine (legs_any W).mono ?_;rintro _ V ⟨rfl,hb⟩;have HB:=Lib.hid hb;clear hb))
 have bx2:=Bxs.new2 V Lg.zero.cells 26 Lg.zero.cells 26
 have bV:Below V.heap.size V ((((V.alloc (.cells Lg.zero.cells 26)).alloc (.cells Lg.zero.cells 26)).setRow V.heap.size lgP.cells).setRow (V.heap.size + 1) lgG.cells):=Below.setRow_ (Below.setRow_ bx2.below (Nat.le_refl _) lgP.cells) (Nat.le_succ _) lgG.cells
 have y0:((((V.alloc (.cells Lg.zero.cells 26)).alloc (.cells Lg.zero.cells 26)).setRow V.heap.size lgP.cells).setRow (V.heap.size + 1) lgG.cells).heap[V.heap.size]?=some (.cells lgP.cells 26):=by
  rw [heap_setRow_ne _ _ (by omega)]
  exact setRow_heap _ _ _ _ _ _ (bx2.rows 0 _ _ rfl)
 have y1:((((V.alloc (.cells Lg.zero.cells 26)).alloc (.cells Lg.zero.cells 26)).setRow V.heap.size lgP.cells).setRow (V.heap.size + 1) lgG.cells).heap[V.heap.size + 1]?=some (.cells lgG.cells 26):=
  setRow_heap _ _ _ _ _ _ ((heap_setRow_ne _ _ (by omega)).trans (bx2.rows 1 _ _ rfl))
 generalize (((V.alloc (.cells Lg.zero.cells 26)).alloc (.cells Lg.zero.cells 26)).setRow V.heap.size lgP.cells).setRow (V.heap.size + 1) lgG.cells=V3 at bV y0 y1 ⊢
 obtain ⟨cn,wx,hu⟩:=WA.out
 have x:=ex_of (sd 1)
 generalize dealW (sd 1) 7 2 lgP lgG ⟨100,200,0⟩=dd at x
 have wxV:=wx.below HB.out
 have wx2:=wxV.adds bV [(V.heap.size,.cells lgP.cells 26),(V.heap.size + 1,.cells lgG.cells 26)] (fun p hp=>by
  rcases List.mem_cons.1 hp with rfl | hp
  ·exact ⟨Nat.le_refl _,y0⟩
  ·rcases List.mem_cons.1 hp with rfl | hp
   ·exact ⟨Nat.le_succ _,y1⟩
   ·cases hp)
 generalize hcc:({ c with ex:=[(V.heap.size,.cells lgP.cells 26),(V.heap.size + 1,.cells lgG.cells 26)] ++ c.ex }:Wd)=c2 at wx2
 have e1:c.wb=c2.wb:=by rw [← hcc]
 have e4:c.u=c2.u:=by rw [← hcc]
 have cn2:c2.N=2:=by rw [← hcc];exact cn
 have m0:(V.heap.size,Obj.cells lgP.cells 26) ∈ c2.ex:=by rw [← hcc];exact List.mem_append_left _ (List.mem_cons_self ..)
 have m1:(V.heap.size + 1,Obj.cells lgG.cells 26) ∈ c2.ex:=by rw [← hcc];exact List.mem_append_left _ (List.mem_cons_of_mem _ (List.mem_cons_self ..))
 rw [e1]
 rw [e4] at hu
 have X:=Lib.hid (And.intro cn2 (And.intro x hu))
 have MM:=Lib.hid (And.intro m0 m1)
 have WX0:=Lib.hid wx2
 generalize V.heap.size=lb at *
 clear WA HB bV cn wx hu x wxV wx2 y0 y1 bx2 e1 e4 cn2 hcc m0 m1
 by_cases hlen:K.length > 100
 ·have i1:((K.length:Int) > 100)=True:=eq_true (by omega)
  have WK:=Lib.hid (T_works WX0.out)
  clear hlen
  go_wp2_with (go_at_call 7;refine WK.out.mono ?_;rintro _ U ⟨rfl,wx⟩;have LO:=Lib.hid wx.low;clear wx)
  go_ret
  exact ⟨rfl,X.out.2.2.trans (LO.out.mono X.out.2.2.size)⟩
 have i1:((K.length:Int) > 100)=False:=eq_false (by omega)
 have KV:=Lib.hid ((KP.out (by omega)).below X.out.2.2)
 clear hlen
 go_wp2_with fail
 refine (Pick30 V3).mono ?_
 rintro _ V4 ⟨b,b0,b1,rfl,rfl⟩
 have AK:=Lib.hid (W_arm (a:=2) WX0.out (by rw [X.out.1];decide) (i:=b) (by omega))
 have eb:decide (b=-1)=false:=decide_eq_false (by omega)
 have EB:=Lib.hid eb
 clear b0 b1 eb
 go_wp2_with fail
 refine AK.out.mono ?_
 rintro _ V5 ⟨rfl,wx⟩
 rw [EB.out] at wx
 have l0:=rowOf_of (wx.has MM.out.1)
 have l1:=rowOf_of (wx.has MM.out.2)
 have PK:=Lib.hid (ph_prop (pr:=false) wx rfl X.out.1 X.out.2.1)
 clear AK wx
 go_wp2_with fail
 refine PK.out.mono ?_
 rintro _ V6 ⟨k,n0,xs0,ls0,rfl,wx,ph⟩
 have ST:=Lib.hid (And.intro wx ph)
 clear PK wx ph l0 l1
 go_upto_region 11 with (fail)
 go_loopw [] (fun wr=>∃ n xs ls,WX c2 wr xs ls now0∧Ph false (sd 1) dd k n xs ls) (fun wr=>lf (fun n=>∃ xs ls,WX c2 wr xs ls now0∧Ph false (sd 1) dd k n xs ls))
 case atStart=>exact ⟨n0,xs0,ls0,ST.out⟩
 case round=>
  obtain ⟨⟨xs,ls,wx,ph⟩,_⟩:=LF.out _ hrel
  generalize hn:lf (fun n=>∃ xs ls,WX c2 wr xs ls now0∧Ph false (sd 1) dd k n xs ls)=n at *
  have HN:=Lib.hid hn
  obtain ⟨mb,rw0⟩:=W_row wx
  clear hn hrel ST
  rcases ph_len ph with ⟨rfl,hl⟩ | ⟨hpos,hl⟩
  ·have WW:=Lib.hid (T_waits wx hl)
   have WY:=Lib.hid (And.intro wx ph)
   clear hl wx ph
   go_upto_region 13 with (go_at_call 11;refine WW.out.mono ?_;rintro _ U1 ⟨rfl,rfl⟩)
   have A2:=Lib.hid (W_arm (a:=2) WY.out.1 (by rw [X.out.1];decide) (i:=-1) (by decide))
   clear WW rw0
   go_wp2_with fail
   refine A2.out.mono ?_
   rintro _ V7 ⟨rfl,wx⟩
   replace wx:WX c2 V7 (upd xs 2 { xs 2 with calm:=true }) ls now0:=wx
   have RS:=Lib.hid (W_restart (a:=2) (cc:=cc) wx (by rw [X.out.1];decide) (KV.out.below wx.low))
   clear A2 wx
   go_wp2_with fail
   refine RS.out.mono ?_
   rintro _ V8 ⟨rfl,L,B,came,_,wx⟩
   have ls0:ls=[]:=List.eq_nil_of_length_eq_zero (by rcases ph_len WY.out.2 with ⟨_,q⟩ | ⟨q,_⟩;exact q;exact absurd q (Nat.lt_irrefl _))
   rw [ls0] at wx
   have pe:=ph_end WY.out.2 came
   generalize hx8:upd (upd xs 2 { xs 2 with calm:=true }) 2 ⟨(upd xs 2 { xs 2 with calm:=true } 2).sd,L,B,none,true,[]⟩=x8 at wx
   replace pe:(k=0∧Ready x8 (sd 1) dd) ∨ (k=9∧(Ready x8 (sd 1) dd ∨ P2 x8 (sd 1) [] [] [])):=by rw [← hx8];exact pe
   have W8:=Lib.hid wx
   clear RS came WY hx8 ls0 wx HN
   rcases pe with ⟨rfl,rdy⟩ | ⟨rfl,rdy | p0⟩
   case inr.inr=>
    have A1:=Lib.hid (T_agreed1 W8.out X.out.1 p0.b1 (r:=false) rfl)
    have PZ:=Lib.hid p0
    clear p0 W8
    go_wp2_with (first
     | (go_at_call 14;refine A1.out.mono ?_;rintro _ U1 ⟨rfl,wx⟩;have N1:=Lib.hid (T_lenN wx X.out.1 (a:=2) (by decide) PZ.out.b2 (n:=0) rfl);clear wx A1)
     | (go_at_call 15;refine N1.out.mono ?_;rintro _ U2 ⟨ao2,cap2,rfl,wx⟩;have l0:=rowOf_of (wx.has MM.out.1);have l1:=rowOf_of (wx.has MM.out.2);have PP:=Lib.hid (T_prop wx X.out.1 PZ.out X.out.2.1 (by decide));clear wx N1)
     | (go_at_call 10;refine PP.out.mono ?_;rintro _ U3 ⟨rfl,xs9,s9,_,_,wx⟩;have WW:=Lib.hid (T_works wx);clear wx l0 l1 PP)
     | (go_at_call 7;refine WW.out.mono ?_;rintro _ U4 ⟨rfl,wx⟩;have LO:=Lib.hid wx.low;clear wx WW))
    go_ret
    exact ⟨rfl,X.out.2.2.trans (LO.out.mono X.out.2.2.size)⟩
   case' inl=>
    have RD:=Lib.hid rdy
    have AG:=Lib.hid (pq_again W8.out X.out.1 X.out.2.1 rdy)
    clear rdy W8
    go_upto_region 20 with (go_at_call 16;refine AG.out.mono ?_;rintro _ V9 ⟨rfl,wx⟩;have Q:=Lib.hid (And.intro wx (Pq.prop RD.out));clear AG wx)
   case' inr.inl=>
    have RD:=Lib.hid rdy
    obtain ⟨s8,_,_,hd8,p8,_⟩:=rdy
    have A1:=Lib.hid (T_agreed1 W8.out X.out.1 p8.b1 (has_one X.out.2.1 hd8))
    clear W8 hd8 p8
    go_upto_region 20 with (first
     | (go_at_call 14;refine A1.out.mono ?_;rintro _ U1 ⟨rfl,wx⟩;have AG:=Lib.hid (pq_again wx X.out.1 X.out.2.1 RD.out);clear wx A1)
     | (go_at_call 16;refine AG.out.mono ?_;rintro _ V9 ⟨rfl,wx⟩;have Q:=Lib.hid (And.intro wx (Pq.prop RD.out));clear AG wx))
   all_goals
    clear RD
    go_loopw [] (fun wr=>∃ n xs ls,WX c2 wr xs ls now0∧Pq (sd 1) dd n xs ls) (fun wr=>lf (fun n=>∃ xs ls,WX c2 wr xs ls now0∧Pq (sd 1) dd n xs ls))
    case atStart=>exact ⟨_,_,_,Q.out⟩
    case round=>
     obtain ⟨⟨xs,ls,wx,ph⟩,_⟩:=LF.out _ hrel
     generalize hn:lf (fun n=>∃ xs ls,WX c2 wr xs ls now0∧Pq (sd 1) dd n xs ls)=n at *
     have HN:=Lib.hid hn
     obtain ⟨mb,rw0⟩:=W_row wx
     clear hn hrel Q
     rcases pq_len ph with ⟨rfl,hl⟩ | ⟨hpos,hl⟩
     ·have WW:=Lib.hid (T_waits wx hl)
      have W9:=Lib.hid wx
      have PD:=Lib.hid (pq_done ph)
      clear hl wx ph HN
      go_upto_region 22 with (go_at_call 11;refine WW.out.mono ?_;rintro _ U1 ⟨rfl,rfl⟩)
      clear WW rw0
      obtain ⟨s9,t9,hd9,p9,ht⟩:=PD.out
      have PW:=Lib.hid (And.intro hd9 p9)
      clear PD hd9 p9
      rcases ht with rfl | rfl
      case' inl=>have TT:=Lib.hid (T_told W9.out X.out.1 PW.out.2 (a:=2) (b:=0) rfl)
      case' inr=>have TT:=Lib.hid (T_told W9.out X.out.1 PW.out.2 (a:=3) (b:=13) rfl)
      all_goals
       clear W9
       go_wp2_with (first
        | (go_at_call 17;refine TT.out.mono ?_;rintro _ U2 ⟨rfl,wx⟩;have A2:=Lib.hid (T_agreed2 wx X.out.1 PW.out.2 X.out.2.1);clear wx TT)
        | (go_at_call 14;refine A2.out.mono ?_;rintro _ U3 ⟨rfl,wx⟩;have N2:=Lib.hid (T_lenN wx X.out.1 (a:=2) (by decide) PW.out.2.b2 (n:=1) rfl);clear wx A2)
        | (go_at_call 15;refine N2.out.mono ?_;rintro _ U4 ⟨ao2,cap2,rfl,wx⟩;have N1:=Lib.hid (T_lenN wx X.out.1 (a:=1) (by decide) PW.out.2.b1 (n:=1) rfl);clear wx N2)
        | (go_at_call 15;refine N1.out.mono ?_;rintro _ U5 ⟨ao1,cap1,rfl,wx⟩;have MI:=Lib.hid (T_mirr wx X.out.1 X.out.2.1 PW.out.1 PW.out.2);clear wx N1)
        | (go_at_call 18;refine MI.out.mono ?_;rintro _ U6 ⟨rfl,wx⟩;have WW:=Lib.hid (T_works wx);clear wx MI)
        | (go_at_call 7;refine WW.out.mono ?_;rintro _ U7 ⟨rfl,wx⟩;have LO:=Lib.hid wx.low;clear wx WW))
       go_ret
       exact ⟨rfl,X.out.2.2.trans (LO.out.mono X.out.2.2.size)⟩
     ·obtain ⟨n,rfl⟩:∃ n',n=n' + 1:=⟨n - 1,by omega⟩
      have WW:=Lib.hid (T_waits wx hl)
      have GO:=Lib.hid (pq_go wx X.out.1 X.out.2.1 ph)
      clear hl wx ph hpos
      go_wp2_with (first
       | (go_at_call 11;refine WW.out.mono ?_;rintro _ U1 ⟨rfl,rfl⟩)
       | (go_at_call 12;refine GO.out.mono ?_;rintro _ U2 ⟨rfl,m,xs',ls',hm,wx',ph'⟩;have NN:=Lib.hid (And.intro hm (And.intro wx' ph'));clear hm wx' ph'))
      go_roundw
      case rel=>exact ⟨m,xs',ls',NN.out.2⟩
      case measure=>
       try rw [HN.out]
       exact Nat.lt_of_le_of_lt ((LF.out _ ⟨m,xs',ls',NN.out.2⟩).2 m ⟨xs',ls',NN.out.2⟩) NN.out.1
  ·obtain ⟨n,rfl⟩:∃ n',n=n' + 1:=⟨n - 1,by omega⟩
   have WW:=Lib.hid (T_waits wx hl)
   have GO:=Lib.hid (ph_go wx X.out.1 X.out.2.1 ph)
   clear hl wx ph hpos
   go_wp2_with (first
    | (go_at_call 11;refine WW.out.mono ?_;rintro _ U1 ⟨rfl,rfl⟩)
    | (go_at_call 12;refine GO.out.mono ?_;rintro _ U2 ⟨rfl,m,xs',ls',hm,wx',ph'⟩;have NN:=Lib.hid (And.intro hm (And.intro wx' ph'));clear hm wx' ph'))
   go_roundw
   case rel=>exact ⟨m,xs',ls',NN.out.2⟩
   case measure=>
    try rw [HN.out]
    exact Nat.lt_of_le_of_lt ((LF.out _ ⟨m,xs',ls',NN.out.2⟩).2 m ⟨xs',ls',NN.out.2⟩) NN.out.1
end Go.Proofs.YtjkfondgacjpnaaGreatDoor

namespace Go.Proofs.YtjkfondgacjpnaaGreatDoor
open Go.RowKit
set_option maxRecDepth 100000
abbrev laid3 : List (String × DataW Unit) := [("mangrove/blake.begins", Rows.laid_mangrove_blake_begins), ("mangrove/blake.orders", Rows.laid_mangrove_blake_orders), ("mangrove/pack.forms", Rows.laid_mangrove_pack_forms)]
theorem gBeg : Tryz.prog.globalNamed "mangrove/blake.begins" = some 1 := by kernel_rfl
theorem gOrd : Tryz.prog.globalNamed "mangrove/blake.orders" = some 2 := by kernel_rfl
theorem gFor : Tryz.prog.globalNamed "mangrove/pack.forms" = some 0 := by kernel_rfl
theorem tBeg:(Tryz.prog.globals[1]?).map (·.type)=some 188:=by kernel_rfl
theorem tOrd:(Tryz.prog.globals[2]?).map (·.type)=some 228:=by kernel_rfl
theorem tFor:(Tryz.prog.globals[0]?).map (·.type)=some 183:=by kernel_rfl
theorem lay_block {W:World} {n:String} {g:Nat} {cs:Array Value} {ps:List MemPlace} (hg:Tryz.prog.globalNamed n=some g) (hv:W.var? Tryz.prog n=some cs) (h0:0 < cs.size) (hin:∀ x ∈ MemPlace.row ⟨g,0,none⟩ cs.size,x ∈ ps)
  (hps:∀ b off,MemPlace.cell b off ∈ ps→(∃ c t,W.heap[b]?=some (.cells c t (0,0)))∧∀ u v,W.cell? ⟨b,off,none⟩=some (.iface u v)→Value.okWide Tryz.prog W .any 0 u v):∃ t,W.heap[g]?=some (.cells cs t):=by
 have hm:MemPlace.cell g 0 ∈ MemPlace.row ⟨g,0,none⟩ cs.size:=List.mem_map.2 ⟨0,List.mem_range.2 h0,rfl⟩
 obtain ⟨⟨c,t,hc⟩,_⟩:=hps g 0 (hin _ hm)
 unfold World.var? at hv
 rw [hg,Option.bind_some,hc] at hv
 simp only [Option.some.injEq] at hv
 exact ⟨t,by rw [hc,hv]⟩
theorem at_of {cs:List Value} {i:Nat} {v:Value} (h:(cs.drop i).take 1=[v]):cs[i]?=some v:=by
 have:=congrArg (·[0]?) h
 simpa [List.getElem?_take] using this
section
variable {W:World} {enc:TypeId × Value→Unit} {sp:Nat→Bool} {held:Bool} {fuel:Nat}
theorem ord_of {cs:List Value} {p:List MemPlace} (h:DataW.trod enc Tryz.prog W 0 sp held fuel 228 cs=some (Rows.laid_mangrove_blake_orders,p)):cs=ordC.toList:=by
 obtain ⟨_,_,_,_,hlen,_,_⟩:=DataW.trod_array Tryz.underlying228 h
 have hlen:cs.length=10:=hlen.trans (by kernel_rfl)
 have c9:Tryz.prog.cellsOf 9=1:=by kernel_rfl
 have H:∀ i,i < 10→∃ s:ByteArray,cs[i]?=some (.string s)∧(match (Rows.laid_mangrove_blake_orders:DataW Unit) with | .agg l=>l[i]? | _=>none)=some (.lit (.string s.data.toList)):=fun i hi=>by
  obtain ⟨f,d,q,hd,ht⟩:=Lib.array_elem Tryz.underlying228 (show DataW.trod enc Tryz.prog W 0 sp held fuel 228 cs=some (.agg _,p) from h) i hi
  rw [c9,Nat.mul_one] at ht
  obtain ⟨s,h1,h2,_⟩:=DataW.trod_string Tryz.underlying9 ht
  refine ⟨s,at_of h1,?_⟩
  simp only [Prod.mk.injEq] at h2
  rw [← h2.1]
  exact hd
 have E:∀ (s:ByteArray) (l:List UInt8),s.data.toList=l→s=⟨l.toArray⟩:=fun s l e=>by
  cases s
  simp only at e
  rw [← e]
 apply List.ext_getElem?
 intro i
 by_cases hi:i < 10
 ·obtain ⟨s,h1,h2⟩:=H i hi
  rw [h1]
  match i,hi with
  | 0,_=>simp [Rows.laid_mangrove_blake_orders] at h2;rw [E s _ h2.symm];rfl
  | 1,_=>simp [Rows.laid_mangrove_blake_orders] at h2;rw [E s _ h2.symm];rfl
  | 2,_=>simp [Rows.laid_mangrove_blake_orders] at h2;rw [E s _ h2.symm];rfl
  | 3,_=>simp [Rows.laid_mangrove_blake_orders] at h2;rw [E s _ h2.symm];rfl
  | 4,_=>simp [Rows.laid_mangrove_blake_orders] at h2;rw [E s _ h2.symm];rfl
  | 5,_=>simp [Rows.laid_mangrove_blake_orders] at h2;rw [E s _ h2.symm];rfl
  | 6,_=>simp [Rows.laid_mangrove_blake_orders] at h2;rw [E s _ h2.symm];rfl
  | 7,_=>simp [Rows.laid_mangrove_blake_orders] at h2;rw [E s _ h2.symm];rfl
  | 8,_=>simp [Rows.laid_mangrove_blake_orders] at h2;rw [E s _ h2.symm];rfl
  | 9,_=>simp [Rows.laid_mangrove_blake_orders] at h2;rw [E s _ h2.symm];rfl
  | i + 10,h=>omega
 ·rw [List.getElem?_eq_none (by omega),List.getElem?_eq_none (by show 10 ≤ i;omega)]
theorem form_of {cs:List Value} {p:List MemPlace} {a b c:Int} (h:DataW.trod enc Tryz.prog W 0 sp held fuel 182 cs=some (.agg [.lit (.int .u8 a),.lit (.int .i64 b),.lit (.int .u64 c)],p)):cs[0]?=some (.int .u8 a)∧cs[1]?=some (.int .i64 b)∧cs[2]?=some (.int .u64 c):=by
 obtain ⟨xs,n,rfl,hx,hl,hxl,hall⟩:=DataW.trod_struct Tryz.underlying182 h
 have h0:DataW.trod enc Tryz.prog W 0 sp held n 5 ((cs.drop 0).take (Tryz.prog.cellsOf 5))=xs[0]?:=hall 0 _ rfl
 have h1:DataW.trod enc Tryz.prog W 0 sp held n 3 ((cs.drop 1).take (Tryz.prog.cellsOf 3))=xs[1]?:=hall 1 _ rfl
 have h2:DataW.trod enc Tryz.prog W 0 sp held n 180 ((cs.drop 2).take (Tryz.prog.cellsOf 180))=xs[2]?:=hall 2 _ rfl
 rw [show Tryz.prog.cellsOf 5=1 by kernel_rfl] at h0
 rw [show Tryz.prog.cellsOf 3=1 by kernel_rfl] at h1
 rw [show Tryz.prog.cellsOf 180=1 by kernel_rfl] at h2
 match xs,hxl,hx,h0,h1,h2 with
 | [x0,x1,x2],_,hx,h0,h1,h2=>
  simp only [List.map_cons,List.map_nil,Prod.mk.injEq,DataW.agg.injEq,List.cons.injEq] at hx
  obtain ⟨⟨e0,e1,e2,_⟩,_⟩:=hx
  obtain ⟨n0,c0,y0,_⟩:=DataW.trod_int Tryz.underlying5 (show DataW.trod _ Tryz.prog W 0 _ _ n 5 _=some x0 from h0)
  obtain ⟨n1,c1,y1,_⟩:=DataW.trod_int Tryz.underlying3 (show DataW.trod _ Tryz.prog W 0 _ _ n 3 _=some x1 from h1)
  obtain ⟨n2,c2,y2,_⟩:=DataW.trod_int Tryz.underlying180 (show DataW.trod _ Tryz.prog W 0 _ _ n 180 _=some x2 from h2)
  rw [y0] at e0
  rw [y1] at e1
  rw [y2] at e2
  simp only [DataW.lit.injEq,Lit.int.injEq,true_and] at e0 e1 e2
  exact ⟨by rw [e0];exact at_of c0,by rw [e1];exact at_of c1,by rw [e2];exact at_of c2⟩
end
theorem of_laid {W:World} (h:laidMetH Tryz.prog laid3 W):Forms W∧Tabs W:=by
 rw [MakeChecks.laidMetH_plain _ _ _ (by kernel_rfl)] at h
 obtain ⟨ps,⟨g0,t0,cs0,f0,p0,q0,hg0,ht0,hv0,hd0,⟨g1,t1,cs1,f1,p1,q1,hg1,ht1,hv1,hd1,⟨g2,t2,cs2,f2,p2,q2,hg2,ht2,hv2,hd2,e3,e2⟩,e1⟩,e0⟩,_,hps⟩:=h
 obtain rfl:=Option.some.inj (gBeg.symm.trans hg0)
 obtain rfl:=Option.some.inj (gOrd.symm.trans hg1)
 obtain rfl:=Option.some.inj (gFor.symm.trans hg2)
 obtain rfl:=Option.some.inj (tBeg.symm.trans ht0)
 obtain rfl:=Option.some.inj (tOrd.symm.trans ht1)
 obtain rfl:=Option.some.inj (tFor.symm.trans ht2)
 have B0:cs0=uts begV:=by
  have:=Lib.cells_of_tab (P:=Tryz.prog) (zs:=begV) (k:=.u32) (n:=8) (e:=186) Tryz.underlying188 Tryz.underlying186 (by kernel_rfl) (by kernel_rfl) hd0
  rw [← Array.toArray_toList (xs:=cs0),this]
  rfl
 have B1:cs1=ordC:=by
  rw [← Array.toArray_toList (xs:=cs1),ord_of hd1]
 obtain ⟨t4,G4⟩:=lay_block gBeg hv0 (by rw [B0];decide) (fun x hx=>by rw [e0];simp [hx]) hps
 obtain ⟨t5,G5⟩:=lay_block gOrd hv1 (by rw [B1];decide) (fun x hx=>by rw [e0,e1];simp [hx]) hps
 rw [B0] at G4
 rw [B1] at G5
 refine ⟨?_,⟨⟨t4,G4⟩,⟨t5,G5⟩⟩⟩
 have c179:Tryz.prog.cellsOf 182=3:=by kernel_rfl
 have F:∀ i,i < 3→∃ d:DataW Unit,(match (Rows.laid_mangrove_pack_forms:DataW Unit) with | .agg l=>l[i]? | _=>none)=some d∧∃ f q,DataW.trod (fun _=>()) Tryz.prog W 0 (fun _=>true) false f 182 ((cs2.toList.drop (i * 3)).take 3)=some (d,q):=fun i hi=>by
  obtain ⟨f,d,q,hd,ht⟩:=Lib.array_elem Tryz.underlying183 (show DataW.trod _ Tryz.prog W 0 _ false _ 183 cs2.toList=some (.agg _,p2) from hd2) i hi
  rw [c179] at ht
  exact ⟨d,hd,f,q,ht⟩
 have K:∀ i a b c,i < 3→(match (Rows.laid_mangrove_pack_forms:DataW Unit) with | .agg l=>l[i]? | _=>none)=some (.agg [.lit (.int .u8 a),.lit (.int .i64 b),.lit (.int .u64 c)])→cs2[i * 3]?=some (.int .u8 a)∧cs2[i * 3 + 1]?=some (.int .i64 b)∧cs2[i * 3 + 2]?=some (.int .u64 c):=fun i a b c hi e=>by
  obtain ⟨d,hd,f,q,ht⟩:=F i hi
  rw [e] at hd
  cases hd
  obtain ⟨k0,k1,k2⟩:=form_of ht
  simp [List.getElem?_drop] at k0 k1 k2
  exact ⟨by simpa using k0,by simpa using k1,by simpa using k2⟩
 obtain ⟨a0,a1,a2⟩:=K 0 253 2 253 (by decide) rfl
 obtain ⟨b0,b1,b2⟩:=K 1 254 4 65536 (by decide) rfl
 obtain ⟨c0,c1,c2⟩:=K 2 255 8 4294967296 (by decide) rfl
 intro j v hj
 rw [World.var?_cell gFor hv2 j]
 match j with
 | 0=>simp [formsL] at hj;rw [← hj];exact a0
 | 1=>simp [formsL] at hj;rw [← hj];exact a1
 | 2=>simp [formsL] at hj;rw [← hj];exact a2
 | 3=>simp [formsL] at hj;rw [← hj];exact b0
 | 4=>simp [formsL] at hj;rw [← hj];exact b1
 | 5=>simp [formsL] at hj;rw [← hj];exact b2
 | 6=>simp [formsL] at hj;rw [← hj];exact c0
 | 7=>simp [formsL] at hj;rw [← hj];exact c1
 | 8=>simp [formsL] at hj;rw [← hj];exact c2
 | j + 9=>simp [formsL] at hj
end Go.Proofs.YtjkfondgacjpnaaGreatDoor

namespace Go.Proofs.YtjkfondgacjpnaaGreatDoor
open Go.ChangeShapes Go.WideShapes Go.ChangeAt Go.RowKit Go.Clock
set_option linter.unusedVariables false
set_option maxRecDepth 100000
theorem ownK26:ownKnob Tryz.prog.godebug=none:=by kernel_rfl
theorem laidOut:laidOutB Tryz.prog=true:=by kernel_rfl
theorem doorK_met (os:Os) (args:Array Value):laidMetH Tryz.prog laid3 ((World.laidAll Tryz.prog os laid3).forCall (fun _ _=>0) ⟨#[],args,[]⟩).memory:=by
 rw [MakeChecks.laidMetH_plain _ _ _ (by kernel_rfl)]
 exact laidMet_laidAll args (by kernel_rfl) (by kernel_rfl)
theorem plain_of_cell {w:World} {a:Addr} {v:Value} (h:w.cell? a=some v):a=⟨a.block,a.off,none⟩:=by
 obtain ⟨b,o,s⟩:=a
 unfold World.cell? at h
 split at h
 ·simp only at h
  split at h
  ·cases h
  ·rename_i hs
   cases s with
   | none=>rfl
   | some _=>simp at hs
 ·cases h
theorem keep_of {H:Type} {enc:TypeId × Value→H} {w:World} {v:Value} {d:DataW H} {p:List MemPlace} (hv:∃ a n c,v=.slice a n c) (h:DataW.Trod enc Tryz.prog w 0 (fun _=>true) true 22 v d p):∃ (ao:Option Addr) (c:Nat) (K:List Int),v=.slice ao K.length c∧(K.length ≤ 100→KeepAt w ao K):=by
 obtain ⟨a,n,c,rfl⟩:=hv
 obtain ⟨m,hm⟩:=h
 rcases open_ints Tryz.underlying22 Tryz.underlying3 (by kernel_rfl) hm with ⟨h1,_⟩ | ⟨a',len,cap,zs,h1,_,hle,hmx,hzl,_,hcell,hwf⟩
 ·have:Value.slice a n c=.slice none 0 0:=by simpa [Value.cells] using h1
  cases this
  exact ⟨none,0,[],rfl,fun _=>⟨fun j x h=>by simp at h,fun x h=>by simp at h,by decide⟩⟩
 ·have:Value.slice a n c=.slice (some a') len cap:=by simpa [Value.cells] using h1
  cases this
  have hzl':zs.length=c:=by simpa using hzl
  have hn:(zs.take n).length=n:=by rw [List.length_take];omega
  refine ⟨some a',c,zs.take n,by rw [hn],fun h100=>⟨fun j x hj=>?_,fun x hx=>?_,by omega⟩⟩
  ·rw [List.getElem?_take] at hj
   split at hj
   ·rename_i hjn
    have hp:=plain_of_cell (hcell 0 (by omega))
    have ha:a'=⟨a'.block,a'.off,none⟩:=by rwa [show a'.add 0=a' from add_zero_addr a'] at hp
    have hc1:=hcell j (by omega)
    rw [ha,add_plain_addr] at hc1
    have hz:zs[j]?=some (zs.getD j 0):=by rw [List.getD_eq_getElem?_getD,List.getElem?_eq_getElem (show j < zs.length by omega)];rfl
    rw [hz] at hj
    cases hj
    exact ⟨a'.block,a'.off,congrArg some ha,hc1⟩
   ·cases hj
  ·have:=hwf x (List.mem_of_mem_take hx)
   simp [Lit.wf,IntKind.min,IntKind.max,IntKind.signed,IntKind.bits] at this
   omega
theorem fails_any {w:World} (hF:Forms w) (hT:Tabs w) (bh:Int) {ao:Option Addr} {cc:Nat} {K:List Int} (HK:K.length ≤ 100→KeepAt w ao K) (pr:Bool):Calls Tryz.prog 3 #[.int .i64 bh,.slice ao K.length cc,.bool pr] w fun e w'=>e=.returned (.bool true)∧Below w.heap.size w w':=by
 cases pr
 ·exact fails_false hF hT HK
 ·exact fails_true hF hT HK
namespace lawManyFails
theorem lifted (os:Os) (started:os.Started) (H:Type) (enc:TypeId × Value→H) (F:Stop.Interp):
  ReturnsInHanded { calm:=true } Tryz.checked os 3 .any (fun w args=>(Rows.manyFailsSpec.pre enc Tryz.prog Tryz.f3 [] false w args∧laidMetH Tryz.prog laid3 w)∧sizedMet enc Tryz.prog Tryz.f3 (OpenSpec.ofChange Rows.manyFailsSpec) false w args)
   ((OpenSpec.ofChange Rows.manyFailsSpec).postWith enc Tryz.prog Tryz.f3 F (outsideKept [.timePasses]) false true false):=by
 refine Clock.returns_of_change (C:=Tryz.checked) (X:=fun w _=>laidMetH Tryz.prog laid3 w) (fun _ _ _ hh h=>h.of_heap hh) ownK26 started (by kernel_rfl) Tryz.func3
  (Clock.witness_at (enc:=enc) (C:=Tryz.checked) (X:=fun w _=>laidMetH Tryz.prog laid3 w) (World.laidAll Tryz.prog os laid3) #[.int .i64 0,.slice none 0 0,.bool false] 8 (World.laidAll_os _ _ _) (World.shaped_of_ZipB (by kernel_rfl) (by kernel_rfl)) (by kernel_rfl) (by kernel_rfl) (by kernel_rfl) (doorK_met os _)) ?_
 intro W base args ds gs before hval0 hW _ _ hL _
 have hval:∀ (j:Nat) t v,Tryz.f3.params[j]?=some t→args[j]?=some v→Value.okWide Tryz.prog W .any base t v:=hval0
 have hW':=hW
 obtain ⟨p,q,hA0,hV,rfl,hfz,hnd⟩:=hW
 have hA:DataW.TrodAll enc Tryz.prog W 0 (fun _=>true) true Tryz.f3.params.toList args.toList ds p:=hA0
 rw [Tryz.params3] at hA hval
 obtain ⟨v0,vs0,d0,ds0,p0,q0,hargs,rfl,rfl,h0,r0⟩:=trodAll_cons hA
 obtain ⟨v1,vs1,d1,ds1,p1,q1,rfl,rfl,rfl,h1,r1⟩:=trodAll_cons r0
 obtain ⟨v2,vs2,d2,ds2,p2,q2,rfl,rfl,rfl,h2,r2⟩:=trodAll_cons r1
 obtain ⟨rfl,rfl,rfl⟩:=trodAll_nil r2
 obtain rfl:args=#[v0,v1,v2]:=by cases args;simp_all
 obtain ⟨rfl,rfl⟩:=trodVars_none hV
 have lt0:∀ x ∈ p0,x.block < W.heap.size:=by obtain ⟨m,hm⟩:=h0;exact DataW.trod_lt m _ _ _ hm
 have lt1:∀ x ∈ p1,x.block < W.heap.size:=by obtain ⟨m,hm⟩:=h1;exact DataW.trod_lt m _ _ _ hm
 have lt2:∀ x ∈ p2,x.block < W.heap.size:=by obtain ⟨m,hm⟩:=h2;exact DataW.trod_lt m _ _ _ hm
 obtain ⟨a0,rfl⟩:=okWide_int Tryz.underlying3 (hval 0 3 v0 rfl rfl)
 obtain ⟨ao,cc,K,rfl,HK⟩:=keep_of (okWide_slice Tryz.underlying22 (hval 1 22 v1 rfl rfl)) h1
 obtain ⟨a2,rfl⟩:=okWide_bool Tryz.underlying4 (hval 2 4 v2 rfl rfl)
 obtain ⟨hf,ht⟩:=of_laid hL
 clear hA0 hval0
 refine (fails_any hf ht a0 HK a2).mono fun e W' he=>?_
 obtain ⟨rfl,hb⟩:=he
 have hs:Since W.heap.size W W':=Since.of_below hb
 exact ⟨_,rfl,⟨_,_,_,[],_,[],hW',trodAll_mk1 (shut_bool Tryz.underlying4 _),(trodAll_cons_mk (Below.trod laidOut (by kernel_rfl) (of_decide_eq_true (by kernel_rfl)) h0 hs.2 lt0) (trodAll_cons_mk (Below.trod laidOut (by kernel_rfl) (of_decide_eq_true (by kernel_rfl)) h1 hs.2 lt1) (trodAll_cons_mk (Below.trod laidOut (by kernel_rfl) (of_decide_eq_true (by kernel_rfl)) h2 hs.2 lt2) trodAll_mk0))),rfl,hs.2.frame _,fun h=>by cases h⟩,hs.1⟩
theorem over:Rows.ManyFailsSaid:=
 Clock.holds_of_wide_time 3 Tryz.f3 rfl rfl rfl rfl rfl rfl rfl ⟨rfl,rfl,rfl,rfl,rfl⟩ rfl rfl rfl rfl rfl (by kernel_rfl) Tryz.func3 (by kernel_rfl)
  (of_decide_eq_true (by kernel_rfl)) (by unfold Func.isWrapper;first | (rw [if_pos (by decide +kernel)];kernel_rfl) | (rw [if_neg (by decide +kernel)];exact ⟨rfl,rfl⟩))
  (fun os started H enc _ F=>lifted os started H enc F)
theorem proved:Rows.ManyFailsCardSaid:=
 Claim7.holds_tied_plain_at .later [] [.widerDeep, .data, .widerDeep] true (true, "fc50ee5dce1e428e86c7c134bcb9f58887efd711ceb15ac0c4e7acec18b4a0c7") true
  over (fun _ h=>by cases h) (by kernel_rfl) (fun _ h=>by cases h) manyFails_row_tie rfl ⟨rfl,rfl⟩ (by kernel_rfl) rfl
  (fun f fn hf hfn=>by
   obtain rfl : f = 3 := Option.some.inj ((show Tryz.prog.funcNamed "mangrove/mangrovelaw29.ManyFails" = some 3 by kernel_rfl).symm.trans hf) |>.symm
   obtain rfl:fn=Tryz.f3:=(Option.some.inj (Tryz.func3.symm.trans hfn)).symm
   exact ⟨by kernel_rfl,fun j t ht=>by
    rw [Tryz.params3] at ht
    have hm:t ∈ [3,22,4]:=by simpa using Array.mem_of_getElem? ht
    have hall:([3,22,4].all fun u=>!Tryz.prog.wantsStandIn u)=true:=by kernel_rfl
    exact (show Tryz.prog.wantsStandIn t=false by simpa using List.all_eq_true.1 hall t hm)⟩)
  (by kernel_rfl)
end lawManyFails
#print axioms lawManyFails.proved
end Go.Proofs.YtjkfondgacjpnaaGreatDoor
