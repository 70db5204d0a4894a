/- What is proved: parts of the walk and of the plain law. No condition but those each law names. -/
import Derived.Test.YthjgiamfaijoeaaGreatDoorD00
import Derived.DeepKeys
import Derived.Test.YthjgiamfaijoeaaGreatDoorD11
import Derived.Deep.RegionHeld3
import Derived.RegionTactic
import Derived.Deep.DeepCutAuto
set_option linter.unusedSimpArgs false
set_option linter.unusedVariables false
set_option maxRecDepth 100000
namespace Go.Proofs.YthjgiamfaijoeaaGreatDoor
open Go.RowKit
section
theorem zgn {P:Program} {e:TypeId} {k:IntKind} (hu:P.underlying e=some (.int k)) (dd:Nat) (xs:Array Value) (w:World):∀ (is:List Nat),(∀ i ∈ is,∃ n,xs[i]?=some (.int k n))→
  (Op.eqItems (dd + 1) e 1 xs xs is).run P w=.ok true w
 | [],_=>by simp [Op.eqItems]
 | i :: is,h=>by
  obtain ⟨n,hn⟩:=h i (by simp)
  have hp:(part e xs i).run P w=.ok (.int k n) w:=by
   have hp':P.plainKey e=true:=by simp [Program.plainKey,hu]
   exact run_part_plain w hp' hn
  have he:(Op.equalIn (dd + 1) e (.int k n) (.int k n)).run P w=.ok true w:=by
   rw [run_equalIn_int w dd e k k n n hu];simp
  have ih:=zgn hu dd xs w is (fun j hj=>h j (by simp [hj]))
  simp [Op.eqItems,hp,he,ih]
theorem zkd {P:Program} {t e:TypeId} {n:Nat} {i:TypeInfo} {k:IntKind} (hu:P.underlying t=some (.array n e)) (hi:P.info? e=some i) (he:P.underlying e=some (.int k)) (hc:P.cellsOf e=1) (dd:Nat)
  (xs:Array Value) (hx:∀ j,j < n→∃ m,xs[j]?=some (.int k m)) (w:World):(Op.equalIn (dd + 1 + 1) t (.agg xs) (.agg xs)).run P w=.ok true w:=by
 rw [run_equalIn_array w (dd + 1) xs xs hu hi,hc]
 exact zgn he dd xs w _ (fun j hj=>hx j (List.mem_range.1 hj))
end
section
structure Hs where
 l:List Nat
 hl:l.length=32
def Hs.cells (h:Hs):Array Value:=(bts h.l).toArray
def Hs.zero:Hs:=⟨List.replicate 32 0,rfl⟩
structure Lg where
 w:Int
 a:Int
 u:Int
def Lg.cells (l:Lg):Array Value:=#[.int .i64 l.w,.int .i64 l.a,.int .i64 l.u]
def Lg.zero:Lg:=⟨0,0,0⟩
structure Msg where
 k:Int
 i:Int
 c:Int
 p:Lg
 g:Lg
 h:Hs
def Msg.head (m:Msg):List Value:=[.int .i64 m.k,.int .i64 m.i,.int .i64 m.c,.int .i64 m.p.w,.int .i64 m.p.a,.int .i64 m.p.u,.int .i64 m.g.w,.int .i64 m.g.a,.int .i64 m.g.u]
def Msg.cells (m:Msg):Array Value:=(m.head ++ bts m.h.l).toArray
def Msg.zero:Msg:=⟨0,0,0,Lg.zero,Lg.zero,Hs.zero⟩
structure Dl where
 i:Int
 r:Int
 p:Lg
 g:Lg
 h:Hs
 q:Int
def Dl.head (m:Dl):List Value:=[.int .i64 m.i,.int .i64 m.r,.int .i64 m.p.w,.int .i64 m.p.a,.int .i64 m.p.u,.int .i64 m.g.w,.int .i64 m.g.a,.int .i64 m.g.u]
def Dl.list (m:Dl):List Value:=m.head ++ (bts m.h.l ++ [.int .i64 m.q])
def Dl.cells (m:Dl):Array Value:=m.list.toArray
def Dl.zero:Dl:=⟨0,0,Lg.zero,Lg.zero,Hs.zero,0⟩
structure Sw where
 d:Dl
 st:Int
 kn:Bool
 s:Hs
def Sw.list (m:Sw):List Value:=m.d.list ++ (.int .i64 m.st :: .bool m.kn :: bts m.s.l)
def Sw.cells (m:Sw):Array Value:=m.list.toArray
def Sw.zero:Sw:=⟨Dl.zero,0,false,Hs.zero⟩
structure Sv where
 a:Option Addr
 n:Nat
 c:Nat
def Sv.nil:Sv:=⟨none,0,0⟩
structure Tv where
 i:Sv
 o:Sv
 lk:Int
def Tv.list (t:Tv):List Value:=[.slice t.i.a t.i.n t.i.c,.slice t.o.a t.o.n t.o.c,.int .i64 t.lk]
def Tv.cells (t:Tv):Array Value:=#[.slice t.i.a t.i.n t.i.c,.slice t.o.a t.o.n t.o.c,.int .i64 t.lk]
def Tv.zero:Tv:=⟨Sv.nil,Sv.nil,0⟩
structure Rc where
 k:Int
 i:Int
 d:Dl
 s:Hs
 mv:Int
 st:Int
 t:Tv
def Rc.list (r:Rc):List Value:=.int .i64 r.k :: .int .i64 r.i :: (r.d.list ++ (bts r.s.l ++ (.int .i64 r.mv :: .int .i64 r.st :: r.t.list)))
def Rc.cells (r:Rc):Array Value:=r.list.toArray
def Rc.zero:Rc:=⟨0,0,Dl.zero,Hs.zero,0,0,Tv.zero⟩
theorem zer (l:List Nat):(bts l).all (·.oneCell')=true:=by
 rw [List.all_eq_true]
 intro x hx
 simp only [bts,List.mem_map] at hx
 obtain ⟨n,_,rfl⟩:=hx
 rfl
theorem Hs.len (h:Hs):(bts h.l).length=32:=by rw [zam,h.hl]
theorem Dl.len (d:Dl):d.list.length=41:=by simp [Dl.list,Dl.head,d.h.len]
theorem zaa3 {cs:Array Value} (x y z:List Value) (h:cs=(x ++ (y ++ z)).toArray):sub cs x.length y.length=y.toArray:=by
 subst h
 unfold sub
 rw [List.extract_toArray]
 congr 1
 rw [List.extract_eq_take_drop,List.drop_left,Nat.add_sub_cancel_left,List.take_left]
theorem zbv {cs:Array Value} (x y z:List Value) {o n:Nat} (ho:x.length=o) (hn:y.length=n) (h:cs.toList=x ++ (y ++ z)):sub cs o n=y.toArray:=by
 subst ho hn
 exact zaa3 x y z (by rw [← h])
theorem zeb (x y:List Value) (k:Nat) {j:Nat} (hj:x.length + k=j):(x ++ y).toArray[j]?=y[k]?:=by
 subst hj
 rw [List.getElem?_toArray,List.getElem?_append_right (Nat.le_add_right _ _),Nat.add_sub_cancel_left]
theorem getg {cs:Array Value} {k:Nat} {v:Value} (h:cs[k]?=some v) (hk:k < cs.size):cs[k]=v:=Option.some.inj ((Array.getElem?_eq_getElem hk).symm.trans h)
section
variable (h h':Hs) (l:Lg) (m:Msg) (d:Dl) (s:Sw) (t:Tv) (r:Rc) (v:Int) (b:Bool)
theorem zdl:h.cells.size=32:=by simp [Hs.cells,h.len]
theorem zaa4:ones h.cells=true:=by unfold ones Hs.cells;rw [List.all_toArray];exact zer _
theorem zti:sub h.cells 0 32=h.cells:=zbv [] (bts h.l) [] rfl h.len (by simp [Hs.cells])
theorem ztj:l.cells.size=3:=rfl
theorem zaa5:ones l.cells=true:=by kernel_rfl
theorem ztk:sub l.cells 0 3=l.cells:=by kernel_rfl
theorem l_0:l.cells[0]?=some (.int .i64 l.w):=rfl
theorem l_1:l.cells[1]?=some (.int .i64 l.a):=rfl
theorem l_2:l.cells[2]?=some (.int .i64 l.u):=rfl
theorem zc3:m.cells.size=41:=by simp [Msg.cells,Msg.head,m.h.len]
theorem m_one:ones m.cells=true:=by
 unfold ones Msg.cells
 rw [List.all_toArray,List.all_append,zer]
 rfl
theorem m_0:m.cells[0]?=some (.int .i64 m.k):=rfl
theorem m_1:m.cells[1]?=some (.int .i64 m.i):=rfl
theorem m_2:m.cells[2]?=some (.int .i64 m.c):=rfl
theorem m_3:m.cells[3]?=some (.int .i64 m.p.w):=rfl
theorem m_4:m.cells[4]?=some (.int .i64 m.p.a):=rfl
theorem m_5:m.cells[5]?=some (.int .i64 m.p.u):=rfl
theorem m_6:m.cells[6]?=some (.int .i64 m.g.w):=rfl
theorem m_7:m.cells[7]?=some (.int .i64 m.g.a):=rfl
theorem m_8:m.cells[8]?=some (.int .i64 m.g.u):=rfl
theorem zaa6:sub m.cells 0 41=m.cells:=zbv [] (m.head ++ bts m.h.l) [] rfl (by simp [Msg.head,m.h.len]) (by simp [Msg.cells])
theorem m_p:sub m.cells 3 3=m.p.cells:=zbv [.int .i64 m.k,.int .i64 m.i,.int .i64 m.c] [.int .i64 m.p.w,.int .i64 m.p.a,.int .i64 m.p.u] ([.int .i64 m.g.w,.int .i64 m.g.a,.int .i64 m.g.u] ++ bts m.h.l) rfl rfl rfl
theorem m_g:sub m.cells 6 3=m.g.cells:=zbv [.int .i64 m.k,.int .i64 m.i,.int .i64 m.c,.int .i64 m.p.w,.int .i64 m.p.a,.int .i64 m.p.u] [.int .i64 m.g.w,.int .i64 m.g.a,.int .i64 m.g.u] (bts m.h.l) rfl rfl rfl
theorem m_h:sub m.cells 9 32=m.h.cells:=zbv m.head (bts m.h.l) [] rfl m.h.len (by simp [Msg.cells])
theorem zzr:m.cells.setIfInBounds 2 (.int .i64 v)=Msg.cells { m with c:=v }:=rfl
theorem zzs:m.cells.setIfInBounds 3 (.int .i64 v)=Msg.cells { m with p:={ m.p with w:=v } }:=rfl
theorem zzt:m.cells.setIfInBounds 4 (.int .i64 v)=Msg.cells { m with p:={ m.p with a:=v } }:=rfl
theorem zzu:m.cells.setIfInBounds 5 (.int .i64 v)=Msg.cells { m with p:={ m.p with u:=v } }:=rfl
theorem zzv:m.cells.setIfInBounds 6 (.int .i64 v)=Msg.cells { m with g:={ m.g with w:=v } }:=rfl
theorem zzw:m.cells.setIfInBounds 7 (.int .i64 v)=Msg.cells { m with g:={ m.g with a:=v } }:=rfl
theorem zzx:m.cells.setIfInBounds 8 (.int .i64 v)=Msg.cells { m with g:={ m.g with u:=v } }:=rfl
theorem zlm:d.cells.size=41:=by simp [Dl.cells,d.len]
theorem zpg:d.list.all (·.oneCell')=true:=by
 unfold Dl.list
 rw [List.all_append,List.all_append,zer]
 rfl
theorem d_one:ones d.cells=true:=by unfold ones Dl.cells;rw [List.all_toArray];exact zpg d
theorem d_0:d.cells[0]?=some (.int .i64 d.i):=rfl
theorem d_1:d.cells[1]?=some (.int .i64 d.r):=rfl
theorem d_2:d.cells[2]?=some (.int .i64 d.p.w):=rfl
theorem d_3:d.cells[3]?=some (.int .i64 d.p.a):=rfl
theorem d_4:d.cells[4]?=some (.int .i64 d.p.u):=rfl
theorem d_5:d.cells[5]?=some (.int .i64 d.g.w):=rfl
theorem d_6:d.cells[6]?=some (.int .i64 d.g.a):=rfl
theorem d_7:d.cells[7]?=some (.int .i64 d.g.u):=rfl
theorem d_40:d.cells[40]?=some (.int .i64 d.q):=by
 have h1:(d.head ++ bts d.h.l).length + 0=40:=by simp [Dl.head,d.h.len]
 have:=zeb (d.head ++ bts d.h.l) [.int .i64 d.q] 0 h1
 rw [List.append_assoc] at this
 exact this
theorem zaa7:sub d.cells 0 41=d.cells:=zbv [] d.list [] rfl d.len (by simp [Dl.cells])
theorem d_p:sub d.cells 2 3=d.p.cells:=zbv [.int .i64 d.i,.int .i64 d.r] [.int .i64 d.p.w,.int .i64 d.p.a,.int .i64 d.p.u] ([.int .i64 d.g.w,.int .i64 d.g.a,.int .i64 d.g.u] ++ (bts d.h.l ++ [.int .i64 d.q])) rfl rfl rfl
theorem d_g:sub d.cells 5 3=d.g.cells:=zbv [.int .i64 d.i,.int .i64 d.r,.int .i64 d.p.w,.int .i64 d.p.a,.int .i64 d.p.u] [.int .i64 d.g.w,.int .i64 d.g.a,.int .i64 d.g.u] (bts d.h.l ++ [.int .i64 d.q]) rfl rfl rfl
theorem d_h:sub d.cells 8 32=d.h.cells:=zbv d.head (bts d.h.l) [.int .i64 d.q] rfl d.h.len rfl
theorem ztl:d.cells.setIfInBounds 4 (.int .i64 v)=Dl.cells { d with p:={ d.p with u:=v } }:=rfl
theorem ztm:d.cells.setIfInBounds 7 (.int .i64 v)=Dl.cells { d with g:={ d.g with u:=v } }:=rfl
theorem zgx:s.list.length=75:=by simp [Sw.list,s.d.len,s.s.len]
theorem zln:s.cells.size=75:=by simp [Sw.cells,zgx]
theorem zaa8:ones s.cells=true:=by
 unfold ones Sw.cells Sw.list
 rw [List.all_toArray,List.all_append,zpg,List.all_cons,List.all_cons,zer]
 rfl
theorem zaa9:sub s.cells 0 75=s.cells:=zbv [] s.list [] rfl (zgx s) (by simp [Sw.cells])
theorem s_d:sub s.cells 0 41=s.d.cells:=zbv [] s.d.list (.int .i64 s.st :: .bool s.kn :: bts s.s.l) rfl s.d.len rfl
theorem s_s:sub s.cells 43 32=s.s.cells:=zbv (s.d.list ++ [.int .i64 s.st,.bool s.kn]) (bts s.s.l) [] (by simp [s.d.len]) s.s.len (by simp [Sw.cells,Sw.list])
theorem s_41:s.cells[41]?=some (.int .i64 s.st):=zeb s.d.list _ 0 (by rw [s.d.len])
theorem s_42:s.cells[42]?=some (.bool s.kn):=zeb s.d.list _ 1 (by rw [s.d.len])
theorem s_0:s.cells[0]?=some (.int .i64 s.d.i):=rfl
theorem s_1:s.cells[1]?=some (.int .i64 s.d.r):=rfl
theorem s_h:sub s.cells 8 32=s.d.h.cells:=zbv s.d.head (bts s.d.h.l) ([.int .i64 s.d.q] ++ (.int .i64 s.st :: .bool s.kn :: bts s.s.l)) rfl s.d.h.len (by simp [Sw.cells,Sw.list,Dl.list])
theorem t_size:t.cells.size=3:=rfl
theorem t_one:ones t.cells=true:=by kernel_rfl
theorem zaba:sub t.cells 0 3=t.cells:=by kernel_rfl
theorem t_0:t.cells[0]?=some (.slice t.i.a t.i.n t.i.c):=rfl
theorem t_1:t.cells[1]?=some (.slice t.o.a t.o.n t.o.c):=rfl
theorem t_2:t.cells[2]?=some (.int .i64 t.lk):=rfl
theorem zrf:r.list.length=80:=by simp [Rc.list,r.d.len,r.s.len,Tv.list]
theorem zec:r.cells.size=80:=by simp [Rc.cells,zrf]
theorem r_one:ones r.cells=true:=by
 unfold ones Rc.cells Rc.list
 rw [List.all_toArray,List.all_cons,List.all_cons,List.all_append,zpg,List.all_append,zer]
 rfl
theorem r_0:r.cells[0]?=some (.int .i64 r.k):=rfl
theorem r_1:r.cells[1]?=some (.int .i64 r.i):=rfl
theorem r_2:r.cells[2]?=some (.int .i64 r.d.i):=rfl
theorem r_75:r.cells[75]?=some (.int .i64 r.mv):=by
 have:=zeb (.int .i64 r.k :: .int .i64 r.i :: (r.d.list ++ bts r.s.l)) (.int .i64 r.mv :: .int .i64 r.st :: r.t.list) 0 (j:=75) (by simp [r.d.len,r.s.len])
 rw [List.cons_append,List.cons_append,List.append_assoc] at this
 exact this
theorem r_76:r.cells[76]?=some (.int .i64 r.st):=by
 have:=zeb (.int .i64 r.k :: .int .i64 r.i :: (r.d.list ++ bts r.s.l)) (.int .i64 r.mv :: .int .i64 r.st :: r.t.list) 1 (j:=76) (by simp [r.d.len,r.s.len])
 rw [List.cons_append,List.cons_append,List.append_assoc] at this
 exact this
theorem zke:sub r.cells 0 80=r.cells:=zbv [] r.list [] rfl (zrf r) (by simp [Rc.cells])
theorem r_d:sub r.cells 2 41=r.d.cells:=zbv [.int .i64 r.k,.int .i64 r.i] r.d.list (bts r.s.l ++ (.int .i64 r.mv :: .int .i64 r.st :: r.t.list)) rfl r.d.len rfl
theorem r_s:sub r.cells 43 32=r.s.cells:=zbv (.int .i64 r.k :: .int .i64 r.i :: r.d.list) (bts r.s.l) (.int .i64 r.mv :: .int .i64 r.st :: r.t.list) (by simp [r.d.len]) r.s.len (by simp [Rc.cells,Rc.list])
theorem r_t:sub r.cells 77 3=r.t.cells:=zbv (.int .i64 r.k :: .int .i64 r.i :: (r.d.list ++ (bts r.s.l ++ [.int .i64 r.mv,.int .i64 r.st]))) r.t.list [] (by simp [r.d.len,r.s.len]) rfl (by simp [Rc.cells,Rc.list])
end
end
section
theorem Hs.form (h:Hs):∃ f:Nat→Nat,h=⟨[f 0,f 1,f 2,f 3,f 4,f 5,f 6,f 7,f 8,f 9,f 10,f 11,f 12,f 13,f 14,f 15,f 16,f 17,f 18,f 19,f 20,f 21,f 22,f 23,f 24,f 25,f 26,f 27,f 28,f 29,f 30,f 31],rfl⟩:=by
 obtain ⟨l,hl⟩:=h
 refine ⟨fun i=>l.getD i 0,?_⟩
 congr 1
 apply List.ext_getElem (by rw [hl];rfl)
 intro i h1 h2
 rw [hl] at h1
 have e:l.getD i 0=l[i]:=by rw [List.getD_eq_getElem?_getD,zady (by omega)];rfl
 rw [← e]
 match i,h1 with | 0,_=>rfl | 1,_=>rfl | 2,_=>rfl | 3,_=>rfl | 4,_=>rfl | 5,_=>rfl | 6,_=>rfl | 7,_=>rfl | 8,_=>rfl | 9,_=>rfl | 10,_=>rfl | 11,_=>rfl | 12,_=>rfl | 13,_=>rfl | 14,_=>rfl | 15,_=>rfl | 16,_=>rfl | 17,_=>rfl | 18,_=>rfl | 19,_=>rfl | 20,_=>rfl | 21,_=>rfl | 22,_=>rfl | 23,_=>rfl | 24,_=>rfl | 25,_=>rfl | 26,_=>rfl | 27,_=>rfl | 28,_=>rfl | 29,_=>rfl | 30,_=>rfl | 31,_=>rfl | n + 32,h=>omega
def over (cs:Array Value):Nat→List Value→Array Value
 | _,[]=>cs
 | o,v :: l=>over (cs.setIfInBounds o v) (o + 1) l
theorem zcs (w:World) (b o:Nat) (v:Value) (cs:Array Value):(w.setCell ⟨b,o,none⟩ v).setRow b cs=w.setRow b cs:=by
 unfold World.setRow World.setCell
 simp only
 congr 1
 apply Array.ext_getElem?
 intro j
 simp only [Array.getElem?_modify]
 by_cases h:b=j
 ·simp only [h,if_true]
  cases hh:w.heap[j]? with
  | none=>simp
  | some o=>cases o <;> simp
 ·simp only [h,if_false]
theorem setRow_self (w:World) (b:Nat):w.setRow b (rowOf w b)=w:=by
 have e:∀ h,h=w.heap→({ w with heap:=h }:World)=w:=by rintro _ rfl;rfl
 unfold World.setRow
 refine e _ ?_
 apply Array.ext_getElem?
 intro j
 simp only [Array.getElem?_modify]
 by_cases h:b=j
 ·subst h
  unfold rowOf
  simp only [if_true]
  cases hh:w.heap[b]? with
  | none=>simp
  | some o=>cases o <;> simp
 ·simp only [h,if_false]
theorem zc8 (b:Nat):∀ (vs:List Value) (o:Nat) (w:World),w.setCells b o vs=w.setRow b (over (rowOf w b) o vs)
 | [],o,w=>(setRow_self w b).symm
 | v :: r,o,w=>by
  show (w.setCell ⟨b,o,none⟩ v).setCells b (o + 1) r=_
  rw [zc8 b r (o + 1) _,zcs,zac,if_pos rfl]
  rfl
theorem zh6 {P:Program} (t:TypeId) (n:Nat) (hi:(P.info? t).map (·.size)=some n) (w:World) (ρ:Operand→Value) (x y:Operand)
  (dst:Option Tmp) (ty:TypeId) (pos:String) (af:Array Edge) (gd:Option (Nat × Bool))
  (hp:pp (ρ x)=true) (hv:isAg (ρ y)=true) (hs:soft w (pb (ρ x))=true) (hr:po (ρ x) + n ≤ (rowOf w (pb (ρ x))).size) (hn:(agc (ρ y)).size=n) (h1:ones (agc (ρ y))=true):
  (execOp ρ ⟨dst,.store t x y,ty,pos,af,gd⟩).run P w=.ok .skip (w.setRow (pb (ρ x)) (over (rowOf w (pb (ρ x))) (po (ρ x)) (agc (ρ y)).toList)):=by
 have h2:(Instr.storeAt t (ρ x) (ρ y)).run P w=.ok () (w.setRow (pb (ρ x)) (over (rowOf w (pb (ρ x))) (po (ρ x)) (agc (ρ y)).toList)):=by
  have ht:w.there (pb (ρ x)) (po (ρ x)) (agc (ρ y)).size:=fun j hj=>by
   refine ⟨?_,zae _ _ _ hs⟩
   rw [zad,Array.getElem?_eq_getElem (by omega)]
   rfl
  have:=run_storeAt_mid (P:=P) w (pb (ρ x)) (po (ρ x)) t (agc (ρ y)) ht (by rw [hi,hn]) h1
  rw [← zm3 hp,← zk0 hv,zc8] at this
  exact this
 unfold execOp
 simp only [Sem.run_bind,h2,Result.andThen_ok,Sem.run_pure]
section
variable (w:World)
theorem bm0 :(Instr.build 118 #[]).run Tryz.prog w=.ok (.agg Msg.zero.cells) w:=by kernel_rfl
theorem bm2 (a b:Int):(Instr.build 118 #[(0,.int .i64 a),(1,.int .i64 b)]).run Tryz.prog w=.ok (.agg (Msg.cells ⟨a,b,0,Lg.zero,Lg.zero,Hs.zero⟩)) w:=by kernel_rfl
theorem bm3 (a b c:Int):(Instr.build 118 #[(0,.int .i64 a),(1,.int .i64 b),(2,.int .i64 c)]).run Tryz.prog w=.ok (.agg (Msg.cells ⟨a,b,c,Lg.zero,Lg.zero,Hs.zero⟩)) w:=by kernel_rfl
theorem bm5 (a b:Int) (p g:Lg) (h:Hs):(Instr.build 118 #[(0,.int .i64 a),(1,.int .i64 b),(3,.agg p.cells),(4,.agg g.cells),(5,.agg h.cells)]).run Tryz.prog w=.ok (.agg (Msg.cells ⟨a,b,0,p,g,h⟩)) w:=by obtain ⟨f,rfl⟩:=h.form;kernel_rfl
theorem bd0 :(Instr.build 60 #[]).run Tryz.prog w=.ok (.agg Dl.zero.cells) w:=by kernel_rfl
theorem bd6 (a b q:Int) (p g:Lg) (h:Hs):(Instr.build 60 #[(0,.int .i64 a),(1,.int .i64 b),(2,.agg p.cells),(3,.agg g.cells),(4,.agg h.cells),(5,.int .i64 q)]).run Tryz.prog w=.ok (.agg (Dl.cells ⟨a,b,p,g,h,q⟩)) w:=by obtain ⟨f,rfl⟩:=h.form;kernel_rfl
theorem bh0 :(Instr.build 58 #[]).run Tryz.prog w=.ok (.agg Hs.zero.cells) w:=by kernel_rfl
theorem br2 (a b:Int) (d:Dl):(Instr.build 162 #[(0,.int .i64 a),(1,.int .i64 b),(2,.agg d.cells)]).run Tryz.prog w=.ok (.agg (Rc.cells ⟨a,b,d,Hs.zero,0,0,Tv.zero⟩)) w:=by obtain ⟨i,r,p,g,h,q⟩:=d;obtain ⟨f,rfl⟩:=h.form;kernel_rfl
theorem br3 (a b:Int) (h:Hs):(Instr.build 162 #[(0,.int .i64 a),(1,.int .i64 b),(3,.agg h.cells)]).run Tryz.prog w=.ok (.agg (Rc.cells ⟨a,b,Dl.zero,h,0,0,Tv.zero⟩)) w:=by obtain ⟨f,rfl⟩:=h.form;kernel_rfl
theorem bs0 :(Instr.build 62 #[]).run Tryz.prog w=.ok (.agg Sw.zero.cells) w:=by kernel_rfl
theorem bs2 (b:Int) (d:Dl):(Instr.build 62 #[(0,.agg d.cells),(1,.int .i64 b)]).run Tryz.prog w=.ok (.agg (Sw.cells ⟨d,b,false,Hs.zero⟩)) w:=by obtain ⟨i,r,p,g,h,q⟩:=d;obtain ⟨f,rfl⟩:=h.form;kernel_rfl
theorem zm:(zeroValue 118).run Tryz.prog w=.ok (.agg Msg.zero.cells) w:=by kernel_rfl
theorem zd:(zeroValue 60).run Tryz.prog w=.ok (.agg Dl.zero.cells) w:=by kernel_rfl
theorem zh:(zeroValue 58).run Tryz.prog w=.ok (.agg Hs.zero.cells) w:=by kernel_rfl
theorem zs:(zeroValue 62).run Tryz.prog w=.ok (.agg Sw.zero.cells) w:=by kernel_rfl
theorem zr:(zeroValue 162).run Tryz.prog w=.ok (.agg Rc.zero.cells) w:=by kernel_rfl
theorem zl:(zeroValue 30).run Tryz.prog w=.ok (.agg Lg.zero.cells) w:=by kernel_rfl
theorem zt:(zeroValue 160).run Tryz.prog w=.ok (.agg Tv.zero.cells) w:=by kernel_rfl
end
section
variable (w:World) (ρ:Operand→Value) (x y:Operand) (dst:Option Tmp) (ty:TypeId) (pos:String) (af:Array Edge) (gd:Option (Nat × Bool))
theorem load41 (hp:pp (ρ x)=true) (h:po (ρ x) + 41 ≤ (rowOf w (pb (ρ x))).size):(execOp ρ ⟨dst,.load 118 x,ty,pos,af,gd⟩).run Tryz.prog w=.ok (.value (.agg (sub (rowOf w (pb (ρ x))) (po (ρ x)) 41))) w:=
 zav 118 41 Tryz.underlying118 rfl (by kernel_rfl) w ρ x dst ty pos af gd hp h
theorem load50 (hp:pp (ρ x)=true) (h:po (ρ x) + 41 ≤ (rowOf w (pb (ρ x))).size):(execOp ρ ⟨dst,.load 60 x,ty,pos,af,gd⟩).run Tryz.prog w=.ok (.value (.agg (sub (rowOf w (pb (ρ x))) (po (ρ x)) 41))) w:=
 zav 60 41 Tryz.underlying60 rfl (by kernel_rfl) w ρ x dst ty pos af gd hp h
theorem load39 (hp:pp (ρ x)=true) (h:po (ρ x) + 32 ≤ (rowOf w (pb (ρ x))).size):(execOp ρ ⟨dst,.load 58 x,ty,pos,af,gd⟩).run Tryz.prog w=.ok (.value (.agg (sub (rowOf w (pb (ρ x))) (po (ρ x)) 32))) w:=
 zav 58 32 Tryz.underlying58 rfl (by kernel_rfl) w ρ x dst ty pos af gd hp h
theorem load52 (hp:pp (ρ x)=true) (h:po (ρ x) + 75 ≤ (rowOf w (pb (ρ x))).size):(execOp ρ ⟨dst,.load 62 x,ty,pos,af,gd⟩).run Tryz.prog w=.ok (.value (.agg (sub (rowOf w (pb (ρ x))) (po (ρ x)) 75))) w:=
 zav 62 75 Tryz.underlying62 rfl (by kernel_rfl) w ρ x dst ty pos af gd hp h
theorem load84 (hp:pp (ρ x)=true) (h:po (ρ x) + 80 ≤ (rowOf w (pb (ρ x))).size):(execOp ρ ⟨dst,.load 162 x,ty,pos,af,gd⟩).run Tryz.prog w=.ok (.value (.agg (sub (rowOf w (pb (ρ x))) (po (ρ x)) 80))) w:=
 zav 162 80 Tryz.underlying162 rfl (by kernel_rfl) w ρ x dst ty pos af gd hp h
theorem load37 (hp:pp (ρ x)=true) (h:po (ρ x) + 3 ≤ (rowOf w (pb (ρ x))).size):(execOp ρ ⟨dst,.load 30 x,ty,pos,af,gd⟩).run Tryz.prog w=.ok (.value (.agg (sub (rowOf w (pb (ρ x))) (po (ρ x)) 3))) w:=
 zav 30 3 Tryz.underlying30 rfl (by kernel_rfl) w ρ x dst ty pos af gd hp h
theorem load67 (hp:pp (ρ x)=true) (h:po (ρ x) + 3 ≤ (rowOf w (pb (ρ x))).size):(execOp ρ ⟨dst,.load 160 x,ty,pos,af,gd⟩).run Tryz.prog w=.ok (.value (.agg (sub (rowOf w (pb (ρ x))) (po (ρ x)) 3))) w:=
 zav 160 3 Tryz.underlying160 rfl (by kernel_rfl) w ρ x dst ty pos af gd hp h
theorem load23 (hp:pp (ρ x)=true) (h:po (ρ x) + 3 ≤ (rowOf w (pb (ρ x))).size):(execOp ρ ⟨dst,.load 52 x,ty,pos,af,gd⟩).run Tryz.prog w=.ok (.value (.agg (sub (rowOf w (pb (ρ x))) (po (ρ x)) 3))) w:=
 zav 52 3 Tryz.underlying52 rfl (by kernel_rfl) w ρ x dst ty pos af gd hp h
theorem load31 (hp:pp (ρ x)=true) (h:po (ρ x) + 9 ≤ (rowOf w (pb (ρ x))).size):(execOp ρ ⟨dst,.load 68 x,ty,pos,af,gd⟩).run Tryz.prog w=.ok (.value (.agg (sub (rowOf w (pb (ρ x))) (po (ρ x)) 9))) w:=
 zav 68 9 Tryz.underlying68 rfl (by kernel_rfl) w ρ x dst ty pos af gd hp h
theorem zabb (hp:pp (ρ x)=true) (h0:po (ρ x)=0) (hv:isAg (ρ y)=true) (hs:soft w (pb (ρ x))=true) (hr:(rowOf w (pb (ρ x))).size=41) (hn:(agc (ρ y)).size=41) (h1:ones (agc (ρ y))=true):
  (execOp ρ ⟨dst,.store 118 x y,ty,pos,af,gd⟩).run Tryz.prog w=.ok .skip (w.setRow (pb (ρ x)) (agc (ρ y))):=
 za3 118 41 (by kernel_rfl) w ρ x y dst ty pos af gd hp h0 hv hs hr hn h1
theorem ztn (hp:pp (ρ x)=true) (h0:po (ρ x)=0) (hv:isAg (ρ y)=true) (hs:soft w (pb (ρ x))=true) (hr:(rowOf w (pb (ρ x))).size=41) (hn:(agc (ρ y)).size=41) (h1:ones (agc (ρ y))=true):
  (execOp ρ ⟨dst,.store 60 x y,ty,pos,af,gd⟩).run Tryz.prog w=.ok .skip (w.setRow (pb (ρ x)) (agc (ρ y))):=
 za3 60 41 (by kernel_rfl) w ρ x y dst ty pos af gd hp h0 hv hs hr hn h1
theorem zabc (hp:pp (ρ x)=true) (h0:po (ρ x)=0) (hv:isAg (ρ y)=true) (hs:soft w (pb (ρ x))=true) (hr:(rowOf w (pb (ρ x))).size=75) (hn:(agc (ρ y)).size=75) (h1:ones (agc (ρ y))=true):
  (execOp ρ ⟨dst,.store 62 x y,ty,pos,af,gd⟩).run Tryz.prog w=.ok .skip (w.setRow (pb (ρ x)) (agc (ρ y))):=
 za3 62 75 (by kernel_rfl) w ρ x y dst ty pos af gd hp h0 hv hs hr hn h1
theorem zabd (hp:pp (ρ x)=true) (h0:po (ρ x)=0) (hv:isAg (ρ y)=true) (hs:soft w (pb (ρ x))=true) (hr:(rowOf w (pb (ρ x))).size=80) (hn:(agc (ρ y)).size=80) (h1:ones (agc (ρ y))=true):
  (execOp ρ ⟨dst,.store 162 x y,ty,pos,af,gd⟩).run Tryz.prog w=.ok .skip (w.setRow (pb (ρ x)) (agc (ρ y))):=
 za3 162 80 (by kernel_rfl) w ρ x y dst ty pos af gd hp h0 hv hs hr hn h1
theorem zabe (hp:pp (ρ x)=true) (h0:po (ρ x)=0) (hv:isAg (ρ y)=true) (hs:soft w (pb (ρ x))=true) (hr:(rowOf w (pb (ρ x))).size=3) (hn:(agc (ρ y)).size=3) (h1:ones (agc (ρ y))=true):
  (execOp ρ ⟨dst,.store 160 x y,ty,pos,af,gd⟩).run Tryz.prog w=.ok .skip (w.setRow (pb (ρ x)) (agc (ρ y))):=
 za3 160 3 (by kernel_rfl) w ρ x y dst ty pos af gd hp h0 hv hs hr hn h1
theorem zabf (hp:pp (ρ x)=true) (h0:po (ρ x)=0) (hv:isAg (ρ y)=true) (hs:soft w (pb (ρ x))=true) (hr:(rowOf w (pb (ρ x))).size=3) (hn:(agc (ρ y)).size=3) (h1:ones (agc (ρ y))=true):
  (execOp ρ ⟨dst,.store 52 x y,ty,pos,af,gd⟩).run Tryz.prog w=.ok .skip (w.setRow (pb (ρ x)) (agc (ρ y))):=
 za3 52 3 (by kernel_rfl) w ρ x y dst ty pos af gd hp h0 hv hs hr hn h1
theorem zabg (hp:pp (ρ x)=true) (h0:po (ρ x)=0) (hv:isAg (ρ y)=true) (hs:soft w (pb (ρ x))=true) (hr:(rowOf w (pb (ρ x))).size=9) (hn:(agc (ρ y)).size=9) (h1:ones (agc (ρ y))=true):
  (execOp ρ ⟨dst,.store 68 x y,ty,pos,af,gd⟩).run Tryz.prog w=.ok .skip (w.setRow (pb (ρ x)) (agc (ρ y))):=
 za3 68 9 (by kernel_rfl) w ρ x y dst ty pos af gd hp h0 hv hs hr hn h1
theorem zabh (hp:pp (ρ x)=true) (hv:isAg (ρ y)=true) (hs:soft w (pb (ρ x))=true) (hr:po (ρ x) + 32 ≤ (rowOf w (pb (ρ x))).size) (hn:(agc (ρ y)).size=32) (h1:ones (agc (ρ y))=true):
  (execOp ρ ⟨dst,.store 58 x y,ty,pos,af,gd⟩).run Tryz.prog w=.ok .skip (w.setRow (pb (ρ x)) (over (rowOf w (pb (ρ x))) (po (ρ x)) (agc (ρ y)).toList)):=
 zh6 58 32 (by kernel_rfl) w ρ x y dst ty pos af gd hp hv hs hr hn h1
theorem zabi (hp:pp (ρ x)=true) (hv:isAg (ρ y)=true) (hs:soft w (pb (ρ x))=true) (hr:po (ρ x) + 3 ≤ (rowOf w (pb (ρ x))).size) (hn:(agc (ρ y)).size=3) (h1:ones (agc (ρ y))=true):
  (execOp ρ ⟨dst,.store 30 x y,ty,pos,af,gd⟩).run Tryz.prog w=.ok .skip (w.setRow (pb (ρ x)) (over (rowOf w (pb (ρ x))) (po (ρ x)) (agc (ρ y)).toList)):=
 zh6 30 3 (by kernel_rfl) w ρ x y dst ty pos af gd hp hv hs hr hn h1
end
section
variable (h h':Hs) (m:Msg) (d:Dl) (s:Sw) (l:Lg) (r:Rc)
theorem over_h:over h.cells 0 h'.cells.toList=h'.cells:=by obtain ⟨f,rfl⟩:=h.form;obtain ⟨f',rfl⟩:=h'.form;kernel_rfl
theorem zabj:over m.cells 9 h'.cells.toList=Msg.cells { m with h:=h' }:=by obtain ⟨a,b,c,p,g,h⟩:=m;obtain ⟨f,rfl⟩:=h.form;obtain ⟨f',rfl⟩:=h'.form;kernel_rfl
theorem zabk:over d.cells 8 h'.cells.toList=Dl.cells { d with h:=h' }:=by obtain ⟨i,r,p,g,h,q⟩:=d;obtain ⟨f,rfl⟩:=h.form;obtain ⟨f',rfl⟩:=h'.form;kernel_rfl
theorem zabl:over s.cells 43 h'.cells.toList=Sw.cells { s with s:=h' }:=by obtain ⟨d,st,kn,e⟩:=s;obtain ⟨i,r,p,g,h,q⟩:=d;obtain ⟨f,rfl⟩:=h.form;obtain ⟨f',rfl⟩:=h'.form;obtain ⟨f2,rfl⟩:=e.form;kernel_rfl
theorem l_0g (q:0 < Array.size l.cells):l.cells[0]'q=(.int .i64 l.w):=getg (l_0 l) q
theorem l_1g (q:1 < Array.size l.cells):l.cells[1]'q=(.int .i64 l.a):=getg (l_1 l) q
theorem l_2g (q:2 < Array.size l.cells):l.cells[2]'q=(.int .i64 l.u):=getg (l_2 l) q
theorem m_0g (q:0 < Array.size m.cells):m.cells[0]'q=(.int .i64 m.k):=getg (m_0 m) q
theorem m_1g (q:1 < Array.size m.cells):m.cells[1]'q=(.int .i64 m.i):=getg (m_1 m) q
theorem m_2g (q:2 < Array.size m.cells):m.cells[2]'q=(.int .i64 m.c):=getg (m_2 m) q
theorem m_3g (q:3 < Array.size m.cells):m.cells[3]'q=(.int .i64 m.p.w):=getg (m_3 m) q
theorem m_4g (q:4 < Array.size m.cells):m.cells[4]'q=(.int .i64 m.p.a):=getg (m_4 m) q
theorem m_5g (q:5 < Array.size m.cells):m.cells[5]'q=(.int .i64 m.p.u):=getg (m_5 m) q
theorem m_6g (q:6 < Array.size m.cells):m.cells[6]'q=(.int .i64 m.g.w):=getg (m_6 m) q
theorem m_7g (q:7 < Array.size m.cells):m.cells[7]'q=(.int .i64 m.g.a):=getg (m_7 m) q
theorem m_8g (q:8 < Array.size m.cells):m.cells[8]'q=(.int .i64 m.g.u):=getg (m_8 m) q
theorem d_0g (q:0 < Array.size d.cells):d.cells[0]'q=(.int .i64 d.i):=getg (d_0 d) q
theorem d_1g (q:1 < Array.size d.cells):d.cells[1]'q=(.int .i64 d.r):=getg (d_1 d) q
theorem d_2g (q:2 < Array.size d.cells):d.cells[2]'q=(.int .i64 d.p.w):=getg (d_2 d) q
theorem d_3g (q:3 < Array.size d.cells):d.cells[3]'q=(.int .i64 d.p.a):=getg (d_3 d) q
theorem d_4g (q:4 < Array.size d.cells):d.cells[4]'q=(.int .i64 d.p.u):=getg (d_4 d) q
theorem d_5g (q:5 < Array.size d.cells):d.cells[5]'q=(.int .i64 d.g.w):=getg (d_5 d) q
theorem d_6g (q:6 < Array.size d.cells):d.cells[6]'q=(.int .i64 d.g.a):=getg (d_6 d) q
theorem d_7g (q:7 < Array.size d.cells):d.cells[7]'q=(.int .i64 d.g.u):=getg (d_7 d) q
theorem d_40g (q:40 < Array.size d.cells):d.cells[40]'q=(.int .i64 d.q):=getg (d_40 d) q
theorem s_0g (q:0 < Array.size s.cells):s.cells[0]'q=(.int .i64 s.d.i):=getg (s_0 s) q
theorem s_1g (q:1 < Array.size s.cells):s.cells[1]'q=(.int .i64 s.d.r):=getg (s_1 s) q
theorem s_41g (q:41 < Array.size s.cells):s.cells[41]'q=(.int .i64 s.st):=getg (s_41 s) q
theorem s_42g (q:42 < Array.size s.cells):s.cells[42]'q=(.bool s.kn):=getg (s_42 s) q
theorem r_0g (q:0 < Array.size r.cells):r.cells[0]'q=(.int .i64 r.k):=getg (r_0 r) q
theorem r_1g (q:1 < Array.size r.cells):r.cells[1]'q=(.int .i64 r.i):=getg (r_1 r) q
theorem r_2g (q:2 < Array.size r.cells):r.cells[2]'q=(.int .i64 r.d.i):=getg (r_2 r) q
theorem r_75g (q:75 < Array.size r.cells):r.cells[75]'q=(.int .i64 r.mv):=getg (r_75 r) q
theorem r_76g (q:76 < Array.size r.cells):r.cells[76]'q=(.int .i64 r.st):=getg (r_76 r) q
end
attribute [go_sem ↓] load41 load50 load39 load52 load84 load37 load67 load23 load31 zabb ztn zabc zabd zabe zabf zabg zabh zabi zm zd zh zs zr zl zt l_0 l_1 l_2 m_0 m_1 m_2 m_3 m_4 m_5 m_6 m_7 m_8 d_0 d_1 d_2 d_3 d_4 d_5 d_6 d_7 d_40 s_0 s_1 s_41 s_42 r_0 r_1 r_2 r_75 r_76
attribute [go_sem] zdl zaa4 zti ztj zaa5 ztk zc3 m_one zaa6 m_p m_g m_h zzr zzs zzt zzu zzv zzw zzx zlm d_one zaa7 d_p d_g d_h ztl ztm zln zaa8 zaa9 s_d s_s s_h t_size t_one zaba t_0 t_1 t_2 zec r_one zke r_d r_s r_t over_h zabj zabk zabl l_0g l_1g l_2g m_0g m_1g m_2g m_3g m_4g m_5g m_6g m_7g m_8g d_0g d_1g d_2g d_3g d_4g d_5g d_6g d_7g d_40g s_0g s_1g s_41g s_42g r_0g r_1g r_2g r_75g r_76g
end
end Go.Proofs.YthjgiamfaijoeaaGreatDoor
