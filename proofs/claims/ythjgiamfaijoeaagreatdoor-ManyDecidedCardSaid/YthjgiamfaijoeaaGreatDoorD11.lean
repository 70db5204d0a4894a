/- What is proved: parts of the walk and of the plain law. No condition but those each law names. -/
import Derived.Test.YthjgiamfaijoeaaGreatDoorD10
import Derived.Laws.BitsAllLaws
import Derived.StillTailTactics
import Derived.Test.YthjgiamfaijoeaaGreatDoorD00
set_option linter.unusedSimpArgs false
set_option linter.unusedVariables false
set_option maxRecDepth 100000
namespace Go.Proofs.YthjgiamfaijoeaaGreatDoor
section
open Go.RowKit Go.Shelf
attribute [local go_sem] Oper.semAt_some
def zxg (u:Int) (x:Nat):Int:=bits .or .u64 (IntKind.u64.wrap (u * 256)) (IntKind.u64.wrap x)
def valM (pre:List (Nat × Nat)):Int:=pre.foldl (fun u x=>zxg u x.2) 0
theorem or_low {u x:Nat} (hu:u < 72057594037927936) (hx:x < 256):bits .or .u64 (((u * 256:Nat)):Int) (x:Int)=((u * 256 + x:Nat):Int):=by
 rw [u64_or_nat _ _ (by omega) (by omega)]
 have:=Nat.two_pow_add_eq_or_of_lt (i:=8) (b:=x) hx u
 rw [Nat.mul_comm u 256]
 rw [show 256 * u + x=2 ^ 8 * u + x from rfl,this]
theorem zll (pre:List (Nat × Nat)) (x:Nat × Nat):valM (pre ++ [x])=zxg (valM pre) x.2:=by unfold valM;rw [List.foldl_append];rfl
theorem zji (zs:List Nat) (hz:∀ x ∈ zs,x < 256) (h8:zs.length ≤ 8):∀ k,k ≤ zs.length→valM (ze9 zs k)=(leN (zs.drop (zs.length - k)):Int)
 | 0,_=>by rw [Nat.sub_zero,List.drop_length];rfl
 | k + 1,h=>by
  show valM (ze9 zs k ++ [_])=_
  rw [zll,zji zs hz h8 k (by omega)]
  obtain ⟨m,hm⟩:∃ m:Nat,zs.length=m + 1 + k:=⟨zs.length - 1 - k,by omega⟩
  have e1:zs.length - (k + 1)=m:=by omega
  have e2:zs.length - k=m + 1:=by omega
  have e3:zs.length - 1 - k=m:=by omega
  rw [e1,e2,e3]
  have hg:zs[m]?=some (zs[m]'(by omega)):=zady (by omega)
  rw [zxe hg,List.getD_eq_getElem?_getD,hg]
  have hx:=hz zs[m] (List.getElem_mem _)
  have hl:=ztd (zs.drop (m + 1)) (fun y hy=>hz y (List.mem_of_mem_drop hy))
  have hl2:(256:Nat) ^ (zs.drop (m + 1)).length ≤ 256 ^ 7:=Nat.pow_le_pow_right (by decide) (by rw [List.length_drop];omega)
  generalize hq:leN (zs.drop (m + 1))=u at *
  have hu:u < 72057594037927936:=Nat.lt_of_lt_of_le hl (Nat.le_trans hl2 (by decide))
  show zxg (u:Int) zs[m]=_
  unfold zxg
  rw [show IntKind.u64.wrap ((u:Int) * 256)=((u * 256:Nat):Int) by rw [IntKind.wrap_u64];omega,show IntKind.u64.wrap ((zs[m]:Nat):Int)=((zs[m]:Nat):Int) by rw [IntKind.wrap_u64];omega,or_low hu hx]
  omega
theorem zkc {B b o:Nat} {v:Value} {W:World} (hb:b < B):KeepsFrom B W (W.setCell ⟨b,o,none⟩ v):=
 ⟨by simp [World.setCell],fun k _ hB hk _=>(Below.heap_setCell _ _ _ k (by show k ≠ b;omega)).trans hk⟩
theorem zrc {W:World} {ub:Nat} {v:Int} {t:TypeId} {fr:Nat × Nat} {ao:Option Addr} {n c:Nat} {l:List Nat} (hs:Sl W ao n c (bts l)) (h:W.heap[ub]?=some (.cells #[.int .u64 v] t fr)):∀ b o,ao=some ⟨b,o,none⟩→0 < n→b ≠ ub:=by
 rintro b o rfl hn rfl
 obtain ⟨b',o',e,_,hc⟩:=hs.at hn
 cases e
 have hl:0 < l.length:=by rw [← zam,hs.len];exact hn
 have h0:=hc 0 (.int .u8 (l[0]:Int)) (by unfold bts;rw [List.getElem?_map,zady hl];rfl)
 unfold World.cell? at h0
 rw [h] at h0
 simp only at h0
 match o with
 | 0=>cases h0
 | o + 1=>simp at h0
def NumR (B:Nat) (p:Nat) (w:World) (l:List Nat):Ending→World→Prop:=fun e w'=>But p w w'∧match zgb l with
 | .ok (u,r)=>e=.returned (.int .i64 u)∧RdB B w' p (r,0)
 | .error k=>e=.panicked [stopE k false]∧∃ v,Rdr w' p v 0
theorem zrd (n:Nat) (hn:1 ≤ n) (Bs b off cap ub:Nat) (zs:List Nat) (hlen:zs.length < 1000000) (hub:Bs ≠ ub) (hbb:b ≠ ub) (w:World) (hB:Bs < w.heap.size) (hbN:b < w.heap.size)
  (hBs:w.cell? ⟨Bs,0,none⟩=some (.slice (some ⟨b,off,none⟩) zs.length cap)) (hc:∀ j (h:j < zs.length),w.cell? ⟨b,off + j,none⟩=some (.int .u8 zs[j])):
  SeqStopsK Fence.wide n Tryz.prog 358 #[.pointer (some ⟨Bs,0,none⟩)] (fun x:Nat × Nat=>#[Value.int .i64 x.1,.int .u8 x.2]) (ButN w.heap.size ub) (fun ys=>ys=ze9 zs zs.length) (fun pre=>pre <+: ze9 zs zs.length) zs.length w:=fun l J Jx W hW _ _ hY h0=>by
 exact zxf n hn l Bs b off cap w.heap.size ub zs hlen hub hbb J Jx hY W hB hbN hW.size ((hW.cell (p:=⟨Bs,0,none⟩) hB).trans hBs) (fun j hj=>(hW.cell (p:=⟨b,off + j,none⟩) hbN).trans (hc j hj)) h0
theorem zaa2 (n:Nat) (a:Option Addr) (len cap:Nat) (w:World):
  CallsIn Fence.wide n Tryz.prog 303 #[.slice a len cap] w fun e w'=>e=.returned (.func (.func 358) #[] #[.pointer (some ⟨w.heap.size,0,none⟩)])∧w'=w.alloc (.cells #[.slice a len cap] 37):=by
 refine callsIn_of_wp Tryz.func303 rfl trivial ?_ rfl
 simp only [Tryz.ntmps303,List.size_toArray,List.length_cons,List.length_nil,Nat.reduceAdd,Nat.reduceSub,Array.replicate_succ,Array.replicate_zero,List.push_toArray,List.append_toArray,List.nil_append,List.cons_append]
 gi_wp2
 go_ret
 exact ⟨rfl,rfl⟩
def UBox (ub N:Nat) (w:World) (pre:List (Nat × Nat)) (W:World):Prop:=W.heap[ub]?=some (.cells #[.int .u64 (valM pre)] 283)∧ButN N ub w W
theorem zxh {ub N:Nat} {w:World} (hN:N ≤ w.heap.size) (hub:ub < N) {B:Nat} (hB:N ≤ B):OwnFrom B (UBox ub N w):=fun s W W' row hs hg hr=>by
 obtain ⟨h1,h2⟩:=hs
 have hlt:=(zadu h1).1
 refine ⟨?_,h2.trans (ButN.below ((Below.refl N W).grown hg (Nat.le_trans hN h2.size) fun k e=>Nat.le_trans hB (hr k e).1))⟩
 rw [hg.block ub hlt (fun e=>by have:=(hr ub e.symm).1;omega)]
 exact h1
set_option maxHeartbeats 1000000 in
theorem zfa {w:World} {B:Nat} (hf:Forms w) {p n c x i wd ls:Nat} {ao:Option Addr} {r:List Nat} (hp2:p ≠ 0) (hi:zkb x=i) (hi3:i < 3) (hwd:zdk[i * 3 + 1]?=some (.int .i64 wd)) (hls:zdk[i * 3 + 2]?=some (.int .u64 ls)) (hw0:0 < wd) (hw8:wd ≤ 8)
  (hx:¬ x < 253) (ew:fwd x=wd) (el:fls x=ls) (hr:Rdr w p (.slice ao n c) 0) (hs:Sl w ao n c (bts (x :: r))) (hsm:Small r) (hn:n < 1000000) (hB:∀ b o,ao=some ⟨b,o,none⟩→0 < n→b < B):
  Calls Tryz.prog 228 #[.pointer (some ⟨p,0,none⟩)] w (NumR B p w (x :: r)):=by
 have hf141:Fence.wide.fn 300:=trivial
 have hf142:Fence.wide.fn 301:=trivial
 have hf144:Fence.wide.fn 303:=trivial
 have hf194:Fence.wide.fn 358:=trivial
 have hf140:Fence.wide.fn 299:=trivial
 have hrl:r.length + 1=n:=by have:=hs.len;rw [zam] at this;simpa using this
 obtain ⟨b,o,rfl,hbl,hcs⟩:=hs.at (by omega)
 have hbp:b ≠ p:=hr.apart hs b o rfl (by omega)
 have hx0:w.cell? ⟨b,o,none⟩=some (.int .u8 x):=hcs 0 _ rfl
 have hcut:Sl w (cutA (some ⟨b,o,none⟩) 1 c) (n - 1) (c - 1) (bts r):=hs.cutB (l:=1) (r:=n) (m:=c) (by omega) (zadw _) (zadw _) hs.le rfl rfl (by simp [List.take_of_length_le,← hrl])
 have T1:=zadv (zj9 hr (m:=1) (by omega) hs.le)
 obtain ⟨A,hA⟩:∃ A,A=cutA (some ⟨b,o,none⟩) 1 c:=⟨_,rfl⟩
 have HAB:=zadv (show ∀ b' o',A=some ⟨b',o',none⟩→b' < B from fun b' o' e=>by rw [hA] at e;rw [zeq e];exact hB b o rfl (by omega))
 clear hB
 rw [← hA] at hcut T1
 have hbut:But p w (w.setCell ⟨p,0,none⟩ (.slice A (n - 1) (c - 1))):=ButN.refl.set 0 _
 have hf1:=hbut.forms hf (zadw _) hp2
 have hr1:Rdr (w.setCell ⟨p,0,none⟩ (.slice A (n - 1) (c - 1))) p (.slice A (n - 1) (c - 1)) 0:=hr.set
 have hs1:=hbut.sl hcut (zadw _) (hr.apart hcut)
 have hx1:=hbut.cell hx0 (zadw _) hbp
 have hlt1:=hbut.size
 obtain ⟨w1,hw1⟩:∃ w1,w1=w.setCell ⟨p,0,none⟩ (.slice A (n - 1) (c - 1)):=⟨_,rfl⟩
 rw [← hw1] at T1 hbut hf1 hr1 hs1 hx1 hlt1
 have HBut:=zadv hbut
 have hb2:=zat w1 (.cells #[.int .u8 x] 5)
 have F:=zadv (ztb (hf1.keep (zadw _) hb2) (q:=w1.heap.size) (y:=x) (zcn w1 _ 5))
 rw [hi] at F
 have HF:=zadv hf1
 have HR:=zadv hr1
 have HS:=zadv hs1
 have HN:=zadv hrl
 have HSm:=zadv hsm
 clear hf hr hs hcs hx0 hcut hA hw1 hbut hf1 hr1 hs1 hrl hi hsm
 refine (callsIn_wide (n:=5)).1 (callsIn_of_wp_marks Tryz.func228 rfl trivial ?_ rfl)
 simp only [Tryz.ntmps228,List.size_toArray,List.length_cons,List.length_nil,Nat.reduceAdd,Nat.reduceSub,Array.replicate_succ,Array.replicate_zero,List.push_toArray,List.append_toArray,List.nil_append,List.cons_append]
 gi_wp2_with fail
 refine (callsIn_wide.2 T1.out).mono ?_
 rintro _ w2 ⟨rfl,e2⟩
 have e3:w1=w2:=e2.symm
 subst e3
 clear e2 T1
 gi_wp2_with fail
 refine (callsIn_wide.2 F.out).mono ?_
 rintro _ w3 ⟨rfl,hb3⟩
 have hb13:Below w1.heap.size w1 w3:=hb2.trans (hb3.mono hb2.size)
 have hx3:w3.cell? ⟨w1.heap.size,0,none⟩=some (.int .u8 x):=za4 (zadw _) hb3 (zcn w1 _ 5)
 have hz3:=hb3.size
 rw [World.size_alloc] at hz3
 have hb4:=zat w3 (.cells #[.int .u64 (0:Int)] 283)
 have hb14:=hb13.trans (hb4.mono hb13.size)
 have hf4:=HF.out.keep (zadw _) hb14
 have hr4:=HR.out.keep (zadw _) hb14
 have hs4:=HS.out.keep (zadw _) hb14
 have hu4:(w3.alloc (.cells #[.int .u64 (0:Int)] 283)).heap[w3.heap.size]?=some (.cells #[.int .u64 (0:Int)] 283):=heap_alloc_new w3 _
 have hbut4:But p w (w3.alloc (.cells #[.int .u64 (0:Int)] 283)):=But.trans HBut.out (ButN.below hb14)
 have hz4:=World.size_alloc w3 (.cells #[.int .u64 (0:Int)] 283)
 have hp4:=HR.out.lt
 have hc1:=hf4 _ _ hwd
 have hc2:=hf4 _ _ hls
 clear F hb2 hb3 hb13 hx1
 have i0:(0:Int) ≤ i:=by omega
 have i3:(i:Int) < 3:=by omega
 have i4:¬ (i:Int) < 0:=by omega
 have H4:=zadv (zadx hf4 (zadx hr4 (zadx hs4 (zadx hu4 (zadx hbut4 hz4)))))
 clear hf4 hr4 hs4 hu4 hbut4 hz4 hb4 hb14
 gi_wp2_with fail
 obtain ⟨hf4,hr4,hs4,hu4,hbut4,hz4⟩:=H4.out
 have hrl:=HN.out
 by_cases hsh:r.length < wd
 ·have TS:=zga hr4 (m:=wd) (by omega)
  refine (callsIn_wide.2 TS).mono ?_
  rintro _ w5 ⟨rfl,rfl⟩
  have hrd:zgb (x :: r)=.error 4:=by rw [zc0,if_neg hx,ew,if_pos hsh]
  simp only [bodyPostM,LeavesInM,LeavesIn,NumR,hrd]
  exact ⟨hbut4,rfl,_,hr4⟩
 ·have hml:wd ≤ n - 1:=by omega
  have TO:=zj9 hr4 (m:=wd) hml hs4.le
  have hcut5:Sl _ (cutA A wd (c - 1)) (n - 1 - wd) (c - 1 - wd) (bts (r.drop wd)):=hs4.cutB (l:=wd) (r:=n - 1) (m:=c - 1) hml (zadw _) (zadw _) hs4.le rfl rfl (by rw [List.take_of_length_le];rw [List.length_drop];omega)
  have hfront:Sl _ A wd wd (bts (r.take wd)):=hs4.frontB hml (zadw _) (Nat.le_trans hml hs4.le) rfl
  obtain ⟨b2,o2,hA2,hb2l,hcs2⟩:=hfront.at hw0
  have hb2p:b2 ≠ p:=hr4.apart hfront b2 o2 hA2 hw0
  subst hA2
  obtain ⟨A5,hA5⟩:∃ A5,A5=cutA (some ⟨b2,o2,none⟩) wd (c - 1):=⟨_,rfl⟩
  have HB5:=zadv (show ∀ b' o',A5=some ⟨b',o',none⟩→0 < n - 1 - wd→b' < B from fun b' o' e _=>by rw [hA5] at e;rw [zeq e];exact HAB.out _ _ rfl)
  rw [← hA5] at hcut5 TO
  have hbut5:=hbut4.set 0 (.slice A5 (n - 1 - wd) (c - 1 - wd))
  have hl5:But p _ _:=ButN.refl.set (w:=w3.alloc (.cells #[.int .u64 (0:Int)] 283)) 0 (.slice A5 (n - 1 - wd) (c - 1 - wd))
  have hf5:=hl5.forms hf4 (zadw _) hp2
  have hr5:Rdr _ p _ 0:=hr4.set (v':=.slice A5 (n - 1 - wd) (c - 1 - wd))
  have hs5:=hl5.sl hcut5 (zadw _) (hr4.apart hcut5)
  have hq5:=hl5.sl hfront (zadw _) (hr4.apart hfront)
  refine (callsIn_wide.2 TO).mono ?_
  rintro _ w5 ⟨rfl,e5⟩
  subst e5
  have hu5:=hl5.block _ (zadu hu4).1 (by omega)
  rw [hu4] at hu5
  have hlt5:=hl5.size
  have hcell2:=hq5.at hw0
  obtain ⟨b3,o3,e3,hb3l,hcs3⟩:=hcell2
  cases e3
  have hbne:b2 ≠ w3.heap.size:=fun e=>by
   have:=hcs3 0 (.int .u8 ((r.take wd)[0]'(by rw [List.length_take];omega):Int)) (by unfold bts;rw [List.getElem?_map,zady (by rw [List.length_take];omega)];rfl)
   subst e
   unfold World.cell? at this
   rw [hu5] at this
   simp only at this
   match o2 with
   | 0=>cases this
   | o2 + 1=>simp at this
  generalize (w3.alloc (.cells #[.int .u64 (0:Int)] 283)).setCell ⟨p,0,none⟩ (.slice A5 (n - 1 - wd) (c - 1 - wd))=w5 at *
  gi_wp2_with (gi_at_call 303;refine (zaa2 _ _ _ _ _).mono ?_;rintro e w' ⟨rfl,rfl⟩)
  have hzl:(r.take wd).length=wd:=by rw [List.length_take];omega
  have hbL:=zat w5 (.cells #[.slice (some ⟨b2,o2,none⟩) wd wd] 37)
  have huL:=(hbL.block _ (zadu hu5).1).trans hu5
  have hsz:=World.size_alloc w5 (.cells #[.slice (some ⟨b2,o2,none⟩) wd wd] 37)
  have hzu:w3.heap.size < w5.heap.size:=(zadu hu5).1
  refine wpIn_rangeFunc_ownG rfl (by decide) (gf:=358) (lb:=#[.pointer (some ⟨w5.heap.size,0,none⟩)]) rfl hf194 (enters_of Tryz.func358 (by kernel_rfl) rfl)
   (zrd 4 (by decide) w5.heap.size b2 o2 wd w3.heap.size (r.take wd) (by rw [hzl];omega) (by omega) hbne _ (by rw [hsz];omega) (by rw [hsz];omega) (by rw [hzl];exact zcn w5 _ 37)
    (fun j hj=>za4 (zadw _) hbL (hcs3 j _ (by unfold bts;rw [List.getElem?_map,zady hj];rfl))))
   butN_t (zzq (zadw _)) (Below.refl _ _) (fun _=>rfl)
   (UBox w3.heap.size (w5.heap.size + 1) (w5.alloc (.cells #[.slice (some ⟨b2,o2,none⟩) wd wd] 37))) (fun _ _ _=>False) (zxh (by rw [hsz];exact zadw _) (by omega) (by rw [hsz];exact zadw _))
   (fun _ _ _ _ _ hs _ _=>hs) ⟨huL,ButN.refl⟩
   (fun y=>{ tmps:=#[.pointer (some ⟨p,0,none⟩),undef,.int .i64 0,.pointer (some ⟨w1.heap.size,0,none⟩),.int .i64 i,.pointer (some ⟨w3.heap.size,0,none⟩),undef,.int .u8 y.2,.pointer (some ⟨p,0,none⟩),.slice (some ⟨b,o,none⟩) 1 1,.pointer (some ⟨b,o,none⟩),.int .u8 x,.slice (some ⟨0,0,none⟩) 3 3,.func (.func 302) #[] #[.pointer (some ⟨w1.heap.size,0,none⟩)],.int .i64 i,.int .i64 i,.bool (decide ((i:Int) < 0)),undef,undef,.pointer (some ⟨p,0,none⟩),.int .i64 i,.pointer (some ⟨0,i * 3,none⟩),.pointer (some ⟨0,i * 3 + 1,none⟩),.int .i64 wd,.slice (some ⟨b2,o2,none⟩) wd wd,.func (.func 358) #[] #[.pointer (some ⟨w5.heap.size,0,none⟩)],.int .i64 y.1,.int .u8 y.2,undef,undef,undef,undef,undef,undef,undef,undef,undef,undef,undef,undef,undef,undef,undef,undef,undef],defers:=[] })
   ?assign ?body ?done ?stop
  case assign=>
   intro l y W K hK
   gi_wp2
   exact hK
  case body=>
   rintro l pre y W ⟨h1,h2⟩ hlt
   have c1:W.cell? ⟨w3.heap.size,0,none⟩=some (.int .u64 (valM pre)):=by unfold World.cell?;rw [h1];rfl
   have f1:W.frozen? ⟨w3.heap.size,0,none⟩=false:=by unfold World.frozen?;rw [h1];rfl
   have H:=zadv (zadx h1 h2)
   generalize hvm:valM pre=vm at c1
   have HVM:=zadv hvm
   clear hf4 hr4 hs4 hu4 hbut4 hfront hcut5 TO hbut5 hl5 hf5 hr5 hs5 hq5 hu5 hbL huL hcs3 hc1 hc2 h1 h2 hvm
   gi_wp2
   obtain ⟨h1,h2⟩:=H.out
   refine ⟨zkc (by rw [hsz];omega),ButN.refl.set 0 _,?_,h2.set 0 _⟩
   rw [zag,if_pos rfl,h1,zll,HVM.out]
   rfl
  case done=>
   rintro D ys W hD rfl ⟨h1,h2⟩ hK
   rw [hzl] at h1
   have hzs:∀ y ∈ r.take wd,y < 256:=fun y hy=>HSm.out y (List.mem_of_mem_take hy)
   have hval:=zji (r.take wd) hzs (by rw [hzl];exact hw8) wd (by rw [hzl];exact zadw _)
   rw [hzl,Nat.sub_self,List.drop_zero] at hval
   rw [hval] at h1
   generalize hu:leN (r.take wd)=u at h1
   have hu64:u < 18446744073709551616:=by
    rw [← hu]
    refine Nat.lt_of_lt_of_le (ztd _ hzs) (Nat.le_trans (Nat.pow_le_pow_right (by decide) (by rw [hzl];exact hw8)) (by decide:256 ^ 8 ≤ 18446744073709551616))
   have hw5:w.heap.size ≤ w5.heap.size:=hbut5.size
   have hwu:w.heap.size ≤ w3.heap.size:=by omega
   have h2w:0 < w1.heap.size:=World.block_lt_of_cell? w1 ⟨0,0,none⟩ (HF.out 0 _ rfl)
   have fin:∀ W2,ButN (w5.heap.size + 1) w3.heap.size (w5.alloc (.cells #[.slice (some ⟨b2,o2,none⟩) wd wd] 37)) W2→But p w W2∧Rdr W2 p (.slice A5 (n - 1 - wd) (c - 1 - wd)) 0∧Sl W2 A5 (n - 1 - wd) (c - 1 - wd) (bts (r.drop wd))∧Forms W2:=fun W2 hB=>by
    refine ⟨?_,hB.rdr (hr5.keep (zadw _) hbL) (by rw [hsz];exact zadw _) (by omega),hB.sl (hs5.keep (zadw _) hbL) (by rw [hsz];exact zadw _) (zrc (hs5.keep (zadw _) hbL) huL),hB.forms (hf5.keep (zadw _) hbL) (by rw [hsz];exact zadw _) (by omega)⟩
    exact ButN.trans hbut5 (ButN.below ((hbL.mono hw5).trans (hB.to (by omega) hwu)))
   obtain ⟨g1,g2,g3,g4⟩:=fin W h2
   have hD2:w5.heap.size + 1 ≤ D:=by rw [← hsz];exact hD
   have fin2:∀ V:World,V.heap=W.heap→V.os=W.os→V.tape=W.tape→V.output=W.output→But p w (V.putObj D (.deferred none))∧Rdr (V.putObj D (.deferred none)) p (.slice A5 (n - 1 - wd) (c - 1 - wd)) 0∧Sl (V.putObj D (.deferred none)) A5 (n - 1 - wd) (c - 1 - wd) (bts (r.drop wd)):=fun V v1 v2 v3 v4=>by
    have hV:ButN (w5.heap.size + 1) w3.heap.size W V:=⟨v2,v3,v4,by rw [v1];exact zadw _,fun k _ _=>by rw [v1]⟩
    have:=fin _ ((h2.trans hV).trans (zzq (w:=w5.alloc (.cells #[.slice (some ⟨b2,o2,none⟩) wd wd] 37)) (by rw [hsz];exact zadw _) V D _ (.deferred none) hD (by rw [v1];exact hK) rfl rfl))
    exact ⟨this.1,this.2.1,this.2.2.1⟩
   have c1:W.cell? ⟨w3.heap.size,0,none⟩=some (.int .u64 u):=by unfold World.cell?;rw [h1];rfl
   have c2:=g4 _ _ hls
   have hrd:zgb (x :: r)=if 9223372036854775808 ≤ u then .error 15 else if u < ls then .error 10 else .ok (u,r.drop wd):=by rw [zc0,if_neg hx,ew,el,if_neg hsh,hu]
   have HFin:=zadv fin2
   have HK:=zadv hK
   have HRD:=zadv hrd
   have HC2:=zadv c2
   clear hf4 hr4 hs4 hu4 hbut4 hfront hcut5 TO hbut5 hl5 hf5 hr5 hs5 hq5 hu5 hbL huL hcs3 hc1 hc2 h1 h2 fin fin2 g1 g2 g3 g4 hK hrd c2 hsz hzl hval hzs hu hD hD2 hrl hA5 hwd hls hlt5
   by_cases k1:9223372036854775808 ≤ u
   ·have k2:¬ (u:Int) < 9223372036854775808:=by omega
    gi_wp2_with fail
    refine (callsIn_wide.2 (zfm _ _)).mono ?_
    rintro _ _ ⟨rfl,rfl⟩
    refine ⟨by simp,.inl ⟨_,_,rfl,run_takeDeferred HK.out,?_⟩⟩
    have e:=HRD.out
    rw [if_pos k1] at e
    simp only [LeavesInM,LeavesIn,NumR,e]
    exact ⟨(HFin.out _ rfl rfl rfl rfl).1,rfl,_,(HFin.out _ rfl rfl rfl rfl).2.1⟩
   ·have k2:(u:Int) < 9223372036854775808:=by omega
    gi_wp2_with fail
    refine (callsIn_wide.2 (zh3 _ _)).mono ?_
    rintro _ _ ⟨rfl,rfl⟩
    have c2:=HC2.out
    by_cases k3:u < ls
    ·have k4:¬ (ls:Int) ≤ u:=by omega
     gi_wp2_with fail
     refine wpIn_wide.2 ?_
     refine wp_region_still_tail 6 (by kernel_rfl) (by kernel_rfl) ?_
     simp only [List.take_succ_cons,List.take_zero,List.drop_succ_cons,List.drop_zero]
     iterate 6 still_step
     refine wpStill_nil ?_
     go_wp2_with fail
     rw [show decide (ls ≤ u)=false from decide_eq_false (by omega)]
     refine (zfm _ _).mono ?_
     rintro _ _ ⟨rfl,rfl⟩
     refine ⟨by simp,.inl ⟨_,_,rfl,run_takeDeferred (w:=World.drew _) HK.out,?_⟩⟩
     have e:=HRD.out
     rw [if_neg k1,if_pos k3] at e
     simp only [LeavesInM,LeavesIn,NumR,e]
     exact ⟨(HFin.out (World.drew _) rfl rfl rfl rfl).1,rfl,_,(HFin.out (World.drew _) rfl rfl rfl rfl).2.1⟩
    ·have k4:(ls:Int) ≤ u:=by omega
     gi_wp2_with fail
     refine wpIn_wide.2 ?_
     refine wp_region_still_tail 6 (by kernel_rfl) (by kernel_rfl) ?_
     simp only [List.take_succ_cons,List.take_zero,List.drop_succ_cons,List.drop_zero]
     iterate 6 still_step
     refine wpStill_nil ?_
     go_wp2_with fail
     refine (zh3 _ _).mono ?_
     rintro _ _ ⟨rfl,rfl⟩
     have k6:IntKind.i64.wrap (u:Int)=u:=by rw [IntKind.wrap_i64];omega
     go_wp2
     gi_wp2
     refine ⟨by simp,.inl ⟨_,_,rfl,run_takeDeferred (w:=World.drew _) HK.out,?_⟩⟩
     have e:=HRD.out
     rw [if_neg k1,if_neg k3] at e
     simp only [LeavesInM,LeavesIn,NumR,e]
     refine ⟨_,results_tmp rfl _ _ _,(HFin.out (World.drew _) rfl rfl rfl rfl).1,rfl,_,_,_,(HFin.out (World.drew _) rfl rfl rfl rfl).2.1,(HFin.out (World.drew _) rfl rfl rfl rfl).2.2,HB5.out⟩
  case stop=>
   rintro D c pre W _ _ h _
   exact h.elim
theorem zre {w:World} {B:Nat} (hf:Forms w) {p:Nat} {l:List Nat} (hp2:p ≠ 0) (hr:RdB B w p (l,0)) (hs:Small l) (hn:l.length < 1000000):Calls Tryz.prog 228 #[.pointer (some ⟨p,0,none⟩)] w (NumR B p w l):=by
 obtain ⟨ao,n,c,h1,h2,hB⟩:=hr
 have hln:l.length=n:=by have:=h2.len;rwa [zam] at this
 cases l with
 | nil=>
  obtain rfl:n=0:=hln.symm
  refine (zlj h1).mono ?_
  rintro _ w2 ⟨rfl,hb⟩
  exact ⟨ButN.below hb,rfl,_,h1.keep (zadw _) hb⟩
 | cons x r=>
  have hsm:Small r:=fun y hy=>hs y (List.mem_cons_of_mem _ hy)
  have hx:=hs x (List.mem_cons_self ..)
  by_cases h3:x < 253
  ·obtain ⟨b,o,rfl,hbl,hc⟩:=h2.at (by rw [← hln];simp)
   have hcut:Sl w (cutA (some ⟨b,o,none⟩) 1 c) (n - 1) (c - 1) (bts r):=h2.cutB (l:=1) (r:=n) (m:=c) (by rw [← hln];simp) (zadw _) (zadw _) h2.le rfl rfl (by simp [List.take_of_length_le,← hln])
   refine (zrb hf h1 (by rw [← hln];simp) h2.le (hc 0 (.int .u8 x) rfl) (h1.apart h2 b o rfl (by rw [← hln];simp)) hp2 h3).mono ?_
   rintro _ w2 ⟨rfl,hb⟩
   have e:(w.setCell ⟨p,0,none⟩ (.slice (cutA (some ⟨b,o,none⟩) 1 c) (n - 1) (c - 1))).heap.size=w.heap.size:=by simp [World.setCell]
   have hb1:But p w (w.setCell ⟨p,0,none⟩ (.slice (cutA (some ⟨b,o,none⟩) 1 c) (n - 1) (c - 1))):=ButN.refl.set 0 _
   have hb2:But p w w2:=ButN.trans hb1 (ButN.below hb)
   refine ⟨hb2,?_⟩
   rw [zc0,if_pos h3]
   exact ⟨rfl,_,_,_,(h1.set (v':=.slice (cutA (some ⟨b,o,none⟩) 1 c) (n - 1) (c - 1))).keep (by rw [e];exact zadw _) hb,hb2.sl hcut (zadw _) (h1.apart hcut),fun b' o' e _=>by rw [zeq e];exact hB b o rfl (by rw [← hln];simp)⟩
  ·have hn2:n < 1000000:=by rw [← hln];exact hn
   have h256:x=253 ∨ x=254 ∨ x=255:=by omega
   rcases h256 with rfl | rfl | rfl
   ·exact zfa hf (i:=0) hp2 rfl (by decide) rfl rfl (by decide) (by decide) h3 rfl rfl h1 h2 hsm hn2 hB
   ·exact zfa hf (i:=1) hp2 rfl (by decide) rfl rfl (by decide) (by decide) h3 rfl rfl h1 h2 hsm hn2 hB
   ·exact zfa hf (i:=2) hp2 rfl (by decide) rfl rfl (by decide) (by decide) h3 rfl rfl h1 h2 hsm hn2 hB
end
section
open Go.RowKit
theorem Rd.cases {w:World} {p:Nat} {s:RS} (h:Rd w p s):∃ v,Rdr w p v s.2:=let ⟨_,_,_,h1,_⟩:=h;⟨_,h1⟩
theorem znl {W:World} {ub:Nat} {v:Value} {t:TypeId} {fr:Nat × Nat} {ao:Option Addr} {n c:Nat} {l:List Nat} (hs:Sl W ao n c (bts l)) (h:W.heap[ub]?=some (.cells #[v] t fr)) (hv:∀ x,v ≠ .int .u8 x):∀ b o,ao=some ⟨b,o,none⟩→0 < n→b ≠ ub:=by
 rintro b o rfl hn rfl
 obtain ⟨b',o',e,_,hc⟩:=hs.at hn
 cases e
 have hl:0 < l.length:=by rw [← zam,hs.len];exact hn
 have h0:=hc 0 (.int .u8 (l[0]:Int)) (by unfold bts;rw [List.getElem?_map,zady hl];rfl)
 unfold World.cell? at h0
 rw [h] at h0
 simp only at h0
 match o with
 | 0=>exact hv _ (Option.some.inj h0)
 | o + 1=>simp at h0
theorem ztg {w w1 W:World} {p ob:Nat} {v:Value} {k0 k:Int} {o:Value} (hb:But p w w1) (hr:Rdr w1 p v k0) (ho:w1.cell? ⟨ob,0,none⟩=some o) (hpo:p ≠ ob) (hwo:w.heap.size ≤ ob) (hwp:p < w.heap.size)
  (hW:W=(((w1.alloc (.cells #[.int .i64 k] 364)).setCell ⟨p,1,none⟩ (.int .i64 k)).setCell ⟨p,0,none⟩ (.slice none 0 0)).setCell ⟨ob,0,none⟩ (.int .i64 0)):
  But p w W∧Rd W p ([],k)∧W.cell? ⟨ob,0,none⟩=some (.int .i64 0):=by
 have hbw:=zat w1 (.cells #[.int .i64 k] 364)
 have h1:=hr.keep (zadw _) hbw
 have h2:=za4 (zadw _) hbw ho
 generalize w1.alloc (.cells #[.int .i64 k] 364)=w2 at *
 have hB:But p w w2:=ButN.trans hb (ButN.below (hbw.mono hb.size))
 subst hW
 refine ⟨?_,⟨none,0,0,?_,Sl.nothing _⟩,?_⟩
 ·exact ButN.trans ((hB.set 1 _).set 0 _) (ButN.below ((Below.refl _ _).setCell (p:=⟨ob,0,none⟩) hwo _))
 ·show Rdr _ p _ k
  unfold Rdr at *
  rw [zag,if_neg (Ne.symm hpo),zag,if_pos rfl,zag,if_pos rfl,h1]
  rfl
 ·have h3:(((w2.setCell ⟨p,1,none⟩ (.int .i64 k)).setCell ⟨p,0,none⟩ (.slice none 0 0))).cell? ⟨ob,0,none⟩=some o:=by
   rw [World.cell?_setCell_other _ _ _ _ (by intro h;cases h;exact hpo rfl),World.cell?_setCell_other _ _ _ _ (by intro h;cases h)]
   exact h2
  simp [go_sem,h3]
set_option maxHeartbeats 2000000 in
theorem zth {w:World} {B:Nat} (hf:Forms w) {p:Nat} {s:RS} (hp2:p ≠ 0) (hr:RdB B w p s) (hs:Small s.1) (hn:s.1.length < 1000000):
  Calls Tryz.prog 227 #[.pointer (some ⟨p,0,none⟩),.func (.func 228) #[.pointer (some ⟨p,0,none⟩)] #[]] w fun e w'=>e=.returned (.int .i64 (rdI s).1)∧But p w w'∧RdB B w' p (rdI s).2:=by
 obtain ⟨v,hv⟩:=hr.rd.cases
 have hpl:=hr.rd.lt
 have hb1:=zat w (.cells #[.pointer (some ⟨p,0,none⟩)] 250)
 have c1:=zcn w (.pointer (some ⟨p,0,none⟩)) 250
 have hb2:=zat (w.alloc (.cells #[.pointer (some ⟨p,0,none⟩)] 250)) (.cells #[.int .i64 0] 3)
 have c1':=za4 (zadw _) hb2 c1
 have c2:=zcn (w.alloc (.cells #[.pointer (some ⟨p,0,none⟩)] 250)) (.int .i64 0) 3
 have hbb:=hb1.trans (hb2.mono hb1.size)
 have HF:=zadv (hf.keep (zadw _) hbb)
 have HR:=zadv (hr.keep (zadw _) hbb)
 have HB:=zadv hbb
 have w1:=hv.keep (zadw _) hbb
 have y1:=w1.why
 rw [World.size_alloc] at c2
 have hlt:p < w.heap.size + 1:=by omega
 have HR1:=zadv w1
 have hso:=World.block_lt_of_cell? _ _ c2
 have hfo:((w.alloc (.cells #[.pointer (some ⟨p,0,none⟩)] 250)).alloc (.cells #[.int .i64 0] 3)).frozen? ⟨w.heap.size + 1,0,none⟩=false:=by simp [go_sem]
 have hqo:((w.alloc (.cells #[.pointer (some ⟨p,0,none⟩)] 250)).alloc (.cells #[.int .i64 0] 3)).heap[w.heap.size + 1]?=some (.cells #[.int .i64 0] 3):=by
  have:=heap_alloc_new (w.alloc (.cells #[.pointer (some ⟨p,0,none⟩)] 250)) (.cells #[.int .i64 0] 3)
  rwa [World.size_alloc] at this
 obtain ⟨W,hW⟩:∃ W,W=(w.alloc (.cells #[.pointer (some ⟨p,0,none⟩)] 250)).alloc (.cells #[.int .i64 0] 3):=⟨_,rfl⟩
 rw [← hW] at c1' c2 HF HR HB y1 HR1 hfo hqo
 have HW:=zadv hW
 clear c1 hf hr hv hb1 hb2 hbb w1 hW hso
 have hbW:But p w W.drew:=ButN.below (HB.out.drew)
 by_cases h0:s.2=0
 ·rw [h0] at y1
  have e1:s=(s.1,0):=by rw [← h0]
  have NA:=zadv (zre (w:=W.drew) (HF.out.keep (zadw _) (Below.refl _ W).drew) hp2 (by rw [← e1];exact HR.out.keep (zadw _) (Below.refl _ W).drew) hs hn)
  have ER:rdI s=ofN (zgb s.1):=by unfold rdI;rw [if_neg (by simp [h0])]
  rw [ER]
  go_enter_defers Tryz.func227,Tryz.ntmps227
  go_upto_region 2 with (fail)
  rw [← HW.out]
  (refine wp_region_still_tail 9 (by kernel_rfl) (by kernel_rfl) ?_;simp only [List.take_succ_cons,List.take_zero,List.drop_succ_cons,List.drop_zero];(iterate 9 still_step);refine wpStill_nil ?_)
  go_wp2_with fail
  refine (zh3 _ _).mono ?_
  rintro _ _ ⟨rfl,rfl⟩
  go_wp2_with fail
  refine NA.out.mono ?_
  rintro e w2 ⟨hb2,hm⟩
  have q1:=hb2.cell (b:=w.heap.size) (o:=0) c1' (zadw _) (by omega)
  have q2:=hb2.cell (b:=w.heap.size + 1) (o:=0) c2 (zadw _) (by omega)
  have hq2:w2.heap[w.heap.size + 1]?=some (.cells #[.int .i64 0] 3):=(hb2.block (w.heap.size + 1) (World.block_lt_of_cell? W ⟨w.heap.size + 1,0,none⟩ c2) (by omega)).trans hqo
  have f2:w2.frozen? ⟨w.heap.size + 1,0,none⟩=false:=by
   have hlt2:w.heap.size + 1 < W.heap.size:=World.block_lt_of_cell? W ⟨w.heap.size + 1,0,none⟩ c2
   rw [← hfo]
   exact World.frozen?_of_block (w:=W) (hb2.block (w.heap.size + 1) hlt2 (by omega))
  have hbw2:But p w w2:=But.trans hbW hb2
  revert hm
  cases hrd:zgb s.1 with
  | ok ur=>
   obtain ⟨u,r⟩:=ur
   rintro ⟨rfl,hrd2⟩
   have HRd:=zadv hrd2
   have HBw:=zadv hbw2
   have HQ2:=zadv hq2
   have HRD:=zadv hrd
   clear hb2 hrd2 hbw2 c1' c2 hrd y1 HR1 hbW hfo hqo hq2
   have q3:(w2.setCell ⟨w.heap.size + 1,0,none⟩ (.int .i64 u)).cell? ⟨w.heap.size + 1,0,none⟩=some (.int .i64 u):=by simp [go_sem,q2]
   go_wp2_with fail
   refine leaves_cons (f:=298) (args:=#[.pointer (some ⟨w.heap.size,0,none⟩),.pointer (some ⟨w.heap.size + 1,0,none⟩)]) (by simp) (by simp [go_sem]) ?_
   refine (znk _ _ _).mono ?_
   rintro e u' w'' ⟨rfl,rfl,rfl⟩
   simp [Leaves,settle,results,Tryz.results227,go_sem,q3]
   have hpne:p ≠ w.heap.size + 1:=by omega
   rw [HRD.out]
   have hs2:But (w.heap.size + 1) w2 (w2.setCell ⟨w.heap.size + 1,0,none⟩ (.int .i64 u)):=ButN.refl.set 0 _
   obtain ⟨ao,n,c,r1,r2,r3⟩:=HRd.out
   refine ⟨rfl,ButN.trans HBw.out (ButN.below ((Below.refl _ _).setCell (p:=⟨w.heap.size + 1,0,none⟩) (Nat.le_succ _) _)),ao,n,c,hs2.rdr r1 (zadw _) hpne,hs2.sl r2 (zadw _) (znl r2 HQ2.out (by intro x h;cases h)),r3⟩
  | error k=>
   rintro ⟨rfl,v2,hv2⟩
   simp only []
   refine leaves_cons (f:=298) (args:=#[.pointer (some ⟨w.heap.size,0,none⟩),.pointer (some ⟨w.heap.size + 1,0,none⟩)]) (by simp) (by simp [go_sem]) ?_
   refine (zh5 w.heap.size (w.heap.size + 1) k [] w2 q1 hv2 q2 f2 (by omega)).mono ?_
   rintro e u' w'' ⟨rfl,rfl,hw''⟩
   obtain ⟨g1,g2,g3⟩:=ztg hbw2 hv2 (o:=.int .i64 0) q2 (by omega) (by omega) hpl hw''
   simp [Leaves,settle,stopE,results,Tryz.results227,go_sem,g3]
   rw [hrd]
   exact ⟨rfl,g1,g2.nb B⟩
 ·have k1:(s.2 == 0)=false:=by rw [beq_eq_false_iff_ne];exact h0
  have e1:rdI s=(0,[],s.2):=by unfold rdI;rw [if_pos h0]
  go_enter_defers Tryz.func227,Tryz.ntmps227
  go_upto_region 2 with (fail)
  rw [← HW.out]
  (refine wp_region_still_tail 9 (by kernel_rfl) (by kernel_rfl) ?_;simp only [List.take_succ_cons,List.take_zero,List.drop_succ_cons,List.drop_zero];(iterate 9 still_step);refine wpStill_nil ?_)
  go_wp2_with fail
  refine (zfm _ _).mono ?_
  rintro _ _ ⟨rfl,rfl⟩
  simp only []
  refine leaves_cons (f:=298) (args:=#[.pointer (some ⟨w.heap.size,0,none⟩),.pointer (some ⟨w.heap.size + 1,0,none⟩)]) (by simp) (by simp [go_sem]) ?_
  refine (zh5 w.heap.size (w.heap.size + 1) s.2 [] W.drew c1' (HR1.out.keep (zadw _) (Below.refl _ W).drew) c2 hfo (by omega)).mono ?_
  rintro e u' w'' ⟨rfl,rfl,hw''⟩
  obtain ⟨g1,g2,g3⟩:=ztg hbW (HR1.out.keep (zadw _) (Below.refl _ W).drew) (o:=.int .i64 0) c2 (by omega) (by omega) hpl hw''
  rw [e1]
  simp [Leaves,settle,stopE,results,Tryz.results227,go_sem,g3]
  exact ⟨g1,g2.nb B⟩
theorem zco {w:World} {B:Nat} (hf:Forms w) {p:Nat} {s:RS} (hp2:p ≠ 0) (hr:RdB B w p s) (hs:Small s.1) (hn:s.1.length < 1000000):
  Calls Tryz.prog 160 #[.pointer (some ⟨p,0,none⟩)] w fun e w'=>e=.returned (.int .i64 (rdI s).1)∧But p w w'∧RdB B w' p (rdI s).2:=by
 have R:=zadv (zth hf hp2 hr hs hn)
 clear hf hr
 go_enter Tryz.func160,Tryz.ntmps160
 go_wp2_with fail
 refine R.out.mono ?_
 rintro _ w2 ⟨rfl,hb,hr2⟩
 have H:=zadv (zadx hb hr2)
 clear hb hr2 R
 go_wp2
 go_ret
 exact ⟨rfl,H.out.1,H.out.2⟩
end
end Go.Proofs.YthjgiamfaijoeaaGreatDoor
