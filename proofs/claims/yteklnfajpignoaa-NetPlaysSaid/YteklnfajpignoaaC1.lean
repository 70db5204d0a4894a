/- What is proved: what a net holds, without its places in the store; how each call turns it; the contract of works, and that taken letters stay; the contract of works: it answers true. No condition but those each law names. -/
import Derived.Test.YteklnfajpignoaaB7
namespace Go.Proofs.Yteklnfajpignoaa
open Sx

/-- A letter: from, to, body. -/
structure LD where
  f : Int
  t : Int
  bs : List Int
/-- What a net holds. -/
structure ND where
  nodes : Int
  row : List LD
  cuts : Int × Int → Bool
  s : Int
  d : Int
  v : Int
  l : Int
def Lt.data (l : Lt) : LD := ⟨l.f, l.t, l.bs⟩
noncomputable def NetM.data (N : NetM) : ND := ⟨N.nodes, N.row.map Lt.data, fun p => boolV ((getL N.cuts (.agg #[.int .i64 p.1, .int .i64 p.2])).getD (.bool false)), N.sent, N.doubled, N.delivered, N.lost⟩
def way (a b : Int) : Int × Int := (intMin a b, intMax a b)
namespace ND
def new (n : Int) : ND := ⟨n, [], fun _ => false, 0, 0, 0, 0⟩
def room (D : ND) : Bool := decide (D.row.length < 1000)
def there (D : ND) (k : Int) : Bool := decide (0 ≤ k ∧ k < (D.row.length : Nat))
def look (D : ND) (k : Int) : LD := if D.there k then D.row.getD k.toNat ⟨0, 0, []⟩ else ⟨0, 0, []⟩
def sendOk (D : ND) (l : LD) : Bool := wayB D.nodes l.f l.t && decide (l.bs.length ≤ 400) && D.room
def send (D : ND) (l : LD) : ND := if D.sendOk l then { D with row := D.row ++ [l], s := inc D.s } else D
def dblOk (D : ND) (k : Int) : Bool := D.there k && D.room
def dbl (D : ND) (k : Int) : ND := if D.dblOk k then { D with row := D.row ++ [D.look k], d := inc D.d } else D
def los (D : ND) (k : Int) : ND := if D.there k then { D with row := D.row.eraseIdx k.toNat, l := inc D.l } else D
def dlvOk (D : ND) (k : Int) : Bool := D.there k && !D.cuts (way (D.look k).f (D.look k).t)
def dlv (D : ND) (k : Int) : ND := if D.dlvOk k then { D with row := D.row.eraseIdx k.toNat, v := inc D.v } else D
def cut (D : ND) (a b : Int) (c : Bool) : ND := if wayB D.nodes a b then { D with cuts := fun p => if p = way a b then c else D.cuts p } else D
end ND
theorem lookB_data (N : NetM) (k : Int) : lookB N k = N.data.there k := by unfold lookB ND.there NetM.data; simp
theorem layB_data (N : NetM) : layB N = N.data.room := by unfold layB ND.room NetM.data; simp
theorem look_data (G : List Ob) (N : NetM) (k : Int) : (lookL G N k).data = N.data.look k := by
  unfold lookL ND.look
  rw [← lookB_data]
  by_cases hb : lookB N k = true
  · rw [if_pos hb, if_pos hb]
    obtain ⟨h1, h2, _⟩ := lookB_spec hb
    unfold NetM.data
    simp only [List.getD_eq_getElem?_getD, List.getElem?_map, h1]
    rfl
  · rw [if_neg hb, if_neg hb]
    rfl
theorem lookO_data {N : NetM} {k : Int} (h : lookB N k = true) : (lookO N k).data = N.data.look k := by
  rw [← look_data [] N k]
  unfold lookL
  rw [if_pos h]
  rfl
theorem new_data (n : Int) (m : Nat) : (newNet n m).data = ND.new n := rfl
theorem sendOk_data (N : NetM) (l : Lt) : sendOk N l = N.data.sendOk l.data := by unfold sendOk ND.sendOk; rw [layB_data]; rfl
theorem send_data (G : List Ob) (N : NetM) (l : Lt) : (sendN G N l).data = N.data.send l.data := by
  unfold sendN ND.send
  rw [sendOk_data]
  split
  · unfold sendN1 layN1 NetM.data
    simp only [List.map_append, List.map_cons, List.map_nil]
    rfl
  · rfl
theorem dblOk_data (N : NetM) (k : Int) : dblOk N k = N.data.dblOk k := by unfold dblOk ND.dblOk; rw [layB_data, lookB_data]
theorem dbl_data (G : List Ob) (N : NetM) (k : Int) : (dblN G N k).data = N.data.dbl k := by
  unfold dblN ND.dbl
  rw [dblOk_data, ← look_data G]
  split
  · unfold dblN1 layN1 NetM.data
    simp only [List.map_append, List.map_cons, List.map_nil]
    rfl
  · rfl
theorem map_erase {α β : Type} (f : α → β) (l : List α) (k : Nat) : (l.eraseIdx k).map f = (l.map f).eraseIdx k := by
  induction l generalizing k with
  | nil => rfl
  | cons a r ih =>
    cases k with
    | zero => rfl
    | succ k => exact congrArg (f a :: ·) (ih k)
theorem los_data (G : List Ob) (x : Nat) (N : NetM) (k : Int) : (losN G x N k).data = N.data.los k := by
  unfold losN ND.los
  rw [lookB_data]
  split
  · unfold goN reN losN1 NetM.data
    simp only [map_erase]
  · rfl
theorem isCut_data (N : NetM) (a b : Int) : isCut N a b = N.data.cuts (way a b) := rfl
theorem dlvOk_data (N : NetM) (k : Int) : dlvOk N k = N.data.dlvOk k := by
  unfold dlvOk ND.dlvOk
  rw [← lookB_data]
  by_cases hb : lookB N k = true
  · have h := lookO_data hb
    rw [hb, isCut_data, ← h]
    rfl
  · have hb : lookB N k = false := by simpa using hb
    rw [hb]
    rfl
theorem dlv_data (G : List Ob) (x : Nat) (N : NetM) (k : Int) : (dlvN G x N k).data = N.data.dlv k := by
  unfold dlvN ND.dlv
  rw [dlvOk_data]
  split
  · unfold goN reN dlvN1 NetM.data
    simp only [map_erase]
  · rfl
theorem dlvL_data (G : List Ob) (N : NetM) (k : Int) : (dlvL G N k).data = if N.data.dlvOk k then N.data.look k else ⟨0, 0, []⟩ := by
  unfold dlvL
  rw [dlvOk_data]
  split
  · exact look_data G N k
  · rfl
theorem get_put (L : List (Value × Value)) (k k' v : Value) : getL (putL L k v) k' = open Classical in if k' = k then some v else getL L k' := by
  induction L with
  | nil =>
    unfold putL
    simp only [getL]
  | cons p r ih =>
    unfold putL
    by_cases h : k = p.1
    · rw [if_pos h]
      by_cases h' : k' = k
      · subst h'; simp [getL]
      · rw [if_neg h']
        have : ¬ k' = p.1 := fun e => h' (e.trans h.symm)
        simp [getL, h', this]
    · rw [if_neg h]
      by_cases h' : k' = k
      · subst h'
        rw [if_pos rfl]
        rw [if_pos rfl] at ih
        simp [getL, h, ih]
      · rw [if_neg h']
        rw [if_neg h'] at ih
        simp [getL, ih]
theorem cut_data (N : NetM) (a b : Int) (c : Bool) : (cutN N a b c).data = N.data.cut a b c := by
  unfold cutN ND.cut
  have hw : N.data.nodes = N.nodes := rfl
  rw [hw]
  split
  · unfold cutN1 NetM.data
    simp only
    congr 1
    funext p
    rw [get_put]
    by_cases e : p = way a b
    · subst e
      rw [show Value.agg #[Value.int .i64 (way a b).1, Value.int .i64 (way a b).2] = keyOf a b from rfl, if_pos rfl, if_pos rfl]
      rfl
    · rw [if_neg e, if_neg]
      intro e'
      apply e
      unfold keyOf at e'
      injection e' with e'
      have e' := congrArg Array.toList e'
      simp only [List.cons.injEq, Value.int.injEq, true_and, and_true] at e'
      exact Prod.ext e'.1 e'.2
  · rfl
end Go.Proofs.Yteklnfajpignoaa

namespace Go.Proofs.Yteklnfajpignoaa
open Sx
set_option maxRecDepth 100000

theorem IsNet.ne1 {G : List Ob} {x : Nat} {N : NetM} (h : IsNet G x N) {d n : Nat} {xs : List Value} (hd : G[d]? = some (.row 1 n xs)) : N.rv ≠ tok d := fun e => by
  rcases h.row with ⟨h1, _⟩ | ⟨d', h1, h2⟩
  · rw [e] at h1; cases h1
  · rw [e] at h1
    have h3 : d = d' := by simpa [tok] using h1
    subst h3
    rw [hd] at h2
    cases h2
theorem Step.stay {G G' : List Ob} {x : Nat} {N N' : NetM} (hs : Step x N G N' G') (hN : IsNet G x N) {d n : Nat} {xs : List Value} (hd : G[d]? = some (.row 1 n xs)) : G'[d]? = some (.row 1 n xs) :=
  hs.fr.2 d _ hd (fun e => by subst e; rw [hN.ob] at hd; cases hd) (fun e => by subst e; rw [hN.map] at hd; cases hd) (hN.ne1 hd)
theorem Step.dst {G G' : List Ob} {x : Nat} {N N' : NetM} (hs : Step x N G N' G') (hN : IsNet G x N) {v : Value} {n : Nat} {xs : List Value} (hd : Dst G v 1 n xs) : Dst G' v 1 n xs := by
  rcases hd with h | ⟨d, rfl, h⟩
  · exact .inl h
  · exact .inr ⟨d, rfl, hs.stay hN h⟩
theorem look_dst {G : List Ob} {x : Nat} {N : NetM} (h : IsNet G x N) (k : Int) : Dst (lookG G N k) (lookL G N k).v 1 (lookL G N k).bs.length ((lookL G N k).bs.map (Value.int .u8)) := by
  unfold lookG lookL
  by_cases hb : lookB N k = true
  · rw [if_pos hb, if_pos hb]
    obtain ⟨h1, _, _⟩ := lookB_spec hb
    exact clone_row (h.body _ (List.mem_of_getElem? h1)).1.sl
  · rw [if_neg hb, if_neg hb]
    exact .inl ⟨rfl, rfl, rfl⟩
theorem dlv_dst {G : List Ob} {x : Nat} {N : NetM} (h : IsNet G x N) (k : Int) : Dst (dlvG G x N k) (dlvL G N k).v 1 (dlvL G N k).bs.length ((dlvL G N k).bs.map (Value.int .u8)) := by
  have h0 := Step.look h k
  have hd := look_dst h k
  unfold dlvG dlvL
  by_cases hb : dlvOk N k = true
  · rw [if_pos hb, if_pos hb]
    have h1 : Step x N (lookG G N k) (dlvN1 N) (dlvG1 G x N k) := Step.put h0.is_ rfl rfl rfl rfl
    exact (Step.go h1.is_ k).dst h1.is_ (h1.dst h0.is_ hd)
  · rw [if_neg hb, if_neg hb]
    exact .inl ⟨rfl, rfl, rfl⟩
/-- A literal of one byte. -/
def litG (G : List Ob) (c : Int) : List Ob := G ++ [.row 1 1 [.int .u8 c]]
theorem lit_get (G : List Ob) (c : Int) : (litG G c)[G.length]? = some (.row 1 1 [.int .u8 c]) := by unfold litG; rw [List.getElem?_append_right (Nat.le_refl _), Nat.sub_self]; rfl
theorem lit_sl (G : List Ob) (c : Int) : Sl (litG G c) (tok G.length) 1 [c].length ([c].map (Value.int .u8)) := dst_sl (.inr ⟨_, rfl, lit_get G c⟩) rfl
section
variable (G : List Ob)
def wX : Nat := G.length + 1
def wG1 : List Ob := newG G 3
def wN1 : NetM := newNet 3 G.length
def wLa : Lt := ⟨1, 2, tok (wG1 G).length, [97]⟩
def wG2 : List Ob := sendG (litG (wG1 G) 97) (wX G) (wN1 G) (wLa G)
def wN2 : NetM := sendN (litG (wG1 G) 97) (wN1 G) (wLa G)
def wLb : Lt := ⟨1, 3, tok (wG2 G).length, [98]⟩
def wG3 : List Ob := sendG (litG (wG2 G) 98) (wX G) (wN2 G) (wLb G)
def wN3 : NetM := sendN (litG (wG2 G) 98) (wN2 G) (wLb G)
def wG4 : List Ob := dblG (wG3 G) (wX G) (wN3 G) 0
def wN4 : NetM := dblN (wG3 G) (wN3 G) 0
noncomputable def wG5 : List Ob := dlvG (wG4 G) (wX G) (wN4 G) 2
noncomputable def wN5 : NetM := dlvN (wG4 G) (wX G) (wN4 G) 2
noncomputable def wG6 : List Ob := losG (wG5 G) (wX G) (wN5 G) 0
noncomputable def wN6 : NetM := losN (wG5 G) (wX G) (wN5 G) 0
noncomputable def wG7 : List Ob := cutG (wG6 G) (wN6 G) 3 1 true
noncomputable def wN7 : NetM := cutN (wN6 G) 3 1 true
noncomputable def wG8 : List Ob := dlvG (wG7 G) (wX G) (wN7 G) 0
noncomputable def wN8 : NetM := dlvN (wG7 G) (wX G) (wN7 G) 0
noncomputable def wG9 : List Ob := cutG (wG8 G) (wN8 G) 1 3 false
noncomputable def wN9 : NetM := cutN (wN8 G) 1 3 false
noncomputable def worksG : List Ob := dlvG (wG9 G) (wX G) (wN9 G) 0
noncomputable def wN10 : NetM := dlvN (wG9 G) (wX G) (wN9 G) 0
def wD1 : ND := ND.new 3
def wD2 : ND := wD1.send ⟨1, 2, [97]⟩
def wD3 : ND := wD2.send ⟨1, 3, [98]⟩
def wD4 : ND := wD3.dbl 0
def wD5 : ND := wD4.dlv 2
def wD6 : ND := wD5.los 0
def wD7 : ND := wD6.cut 3 1 true
def wD8 : ND := wD7.dlv 0
def wD9 : ND := wD8.cut 1 3 false
def wD10 : ND := wD9.dlv 0
theorem d1 : (wN1 G).data = wD1 := rfl
theorem d2 : (wN2 G).data = wD2 := by unfold wN2; rw [send_data, d1]; rfl
theorem d3 : (wN3 G).data = wD3 := by unfold wN3; rw [send_data, d2]; rfl
theorem d4 : (wN4 G).data = wD4 := by unfold wN4; rw [dbl_data, d3]; rfl
theorem d5 : (wN5 G).data = wD5 := by unfold wN5; rw [dlv_data, d4]; rfl
theorem d6 : (wN6 G).data = wD6 := by unfold wN6; rw [los_data, d5]; rfl
theorem d7 : (wN7 G).data = wD7 := by unfold wN7; rw [cut_data, d6]; rfl
theorem d8 : (wN8 G).data = wD8 := by unfold wN8; rw [dlv_data, d7]; rfl
theorem d9 : (wN9 G).data = wD9 := by unfold wN9; rw [cut_data, d8]; rfl
theorem d10 : (wN10 G).data = wD10 := by unfold wN10; rw [dlv_data, d9]; rfl
theorem i1 : IsNet (wG1 G) (wX G) (wN1 G) := new_is G (by decide)
theorem i1' : IsNet (litG (wG1 G) 97) (wX G) (wN1 G) := (i1 G).append
theorem i2 : IsNet (wG2 G) (wX G) (wN2 G) := (Step.send (i1' G) (lit_sl _ _)).is_
theorem i2' : IsNet (litG (wG2 G) 98) (wX G) (wN2 G) := (i2 G).append
theorem i3 : IsNet (wG3 G) (wX G) (wN3 G) := (Step.send (i2' G) (lit_sl _ _)).is_
theorem i4 : IsNet (wG4 G) (wX G) (wN4 G) := (Step.dbl (i3 G) 0).is_
theorem s5 : Step (wX G) (wN4 G) (wG4 G) (wN5 G) (wG5 G) := Step.dlv (i4 G) 2
theorem s6 : Step (wX G) (wN5 G) (wG5 G) (wN6 G) (wG6 G) := Step.los (s5 G).is_ 0
theorem s7 : Step (wX G) (wN6 G) (wG6 G) (wN7 G) (wG7 G) := Step.cut (s6 G).is_ 3 1 true
theorem s8 : Step (wX G) (wN7 G) (wG7 G) (wN8 G) (wG8 G) := Step.dlv (s7 G).is_ 0
theorem s9 : Step (wX G) (wN8 G) (wG8 G) (wN9 G) (wG9 G) := Step.cut (s8 G).is_ 1 3 false
theorem s10 : Step (wX G) (wN9 G) (wG9 G) (wN10 G) (worksG G) := Step.dlv (s9 G).is_ 0
theorem s6_10 : Step (wX G) (wN5 G) (wG5 G) (wN10 G) (worksG G) := (s6 G).trans ((s7 G).trans ((s8 G).trans ((s9 G).trans (s10 G))))
end
end Go.Proofs.Yteklnfajpignoaa

namespace Go.Proofs.Yteklnfajpignoaa
open Sx
set_option maxRecDepth 100000

def wp : List Con := [newC, sendC, dblC, dlvC, losC, waitsC, cutC, countsC, eqC 23, neC 23, bsC 30 1, convC 30 30, b2sC 30 9, eqC 9]
def wpS : List ConS := [conR newR, conR sendR, conR dblR, conR dlvR, conR losR, conR waitsR, conR cutR, conR countsR, conR (CmpR NilPtr false), conR (CmpR NilPtr true), conR (bsR 1 1), conR convR, conR b2sR, conR (CmpR StrEq false)]
theorem wp_holds : Cons Try.prog wp wpS :=
  ⟨new_holds, send_holds, dbl_holds, dlv_holds, los_holds, waits_holds, cut_holds, counts_holds, (ptr_holds Try.underlying23).1, (ptr_holds Try.underlying23).2,
    bs_ok (b := 1) (z := .int .u8 0) Try.underlying30 (by kernel_rfl) rfl, conv_holds Try.underlying30 Try.underlying5 (by decide), b2s_holds Try.underlying30 Try.underlying5 Try.underlying9 (by decide), (str_holds).1, trivial⟩
def worksR (G : List Ob) (l : List Value) (e : Env) : Prop := l = [] ∧ e.b 0 = true ∧ e.g gv = encG (worksG G)
def worksC : Con := mkCon 10 [] (.bool (.var 0)) 2
theorem lit_bs (G : List Ob) (c : Int) : bsR 1 1 G [.int .u8 c] ((Env.ofL [tok G.length]).ans (encG (litG G c))) :=
  ⟨false, [.int .u8 c], rfl, rfl, fun v hv => by
    have : v = .int .u8 c := by simpa using hv
    subst this
    exact ⟨rfl, fun d hd => (by
      have : d = .int .u8 c := by simpa [Value.cells] using hd
      subst this; rfl), fun cs e => (by cases e)⟩, rfl, rfl⟩
theorem lit_conv (G : List Ob) (c : Int) : convR (litG G c) [tok G.length] ((Env.ofL [tok G.length]).ans (encG (litG G c))) := ⟨_, 1, _, rfl, lit_get G c, Nat.one_pos, rfl, rfl⟩
theorem lt_of {l : Lt} {f t : Int} {bs : List Int} (h : l.data = ⟨f, t, bs⟩) : ∃ v, l = ⟨f, t, v, bs⟩ := by
  cases l with
  | mk f' t' v b' =>
    unfold Lt.data at h
    injection h with a b c
    dsimp only at a b c
    subst a b c
    exact ⟨v, rfl⟩
theorem w2 : wD2 = ⟨3, [⟨1, 2, [97]⟩], fun _ => false, 1, 0, 0, 0⟩ := by
  unfold wD2
  rfl
theorem w3 : wD3 = ⟨3, [⟨1, 2, [97]⟩, ⟨1, 3, [98]⟩], fun _ => false, 2, 0, 0, 0⟩ := by
  unfold wD3
  rw [w2]
  rfl
theorem w4 : wD4 = ⟨3, [⟨1, 2, [97]⟩, ⟨1, 3, [98]⟩, ⟨1, 2, [97]⟩], fun _ => false, 2, 1, 0, 0⟩ := by
  unfold wD4
  rw [w3]
  rfl
theorem w5 : wD5 = ⟨3, [⟨1, 2, [97]⟩, ⟨1, 3, [98]⟩], fun _ => false, 2, 1, 1, 0⟩ := by
  unfold wD5
  rw [w4]
  rfl
theorem w6 : wD6 = ⟨3, [⟨1, 3, [98]⟩], fun _ => false, 2, 1, 1, 1⟩ := by
  unfold wD6
  rw [w5]
  rfl
theorem w7 : wD7 = ⟨3, [⟨1, 3, [98]⟩], fun p => if p = way 3 1 then true else false, 2, 1, 1, 1⟩ := by
  unfold wD7
  rw [w6]
  rfl
theorem w8 : wD8 = ⟨3, [⟨1, 3, [98]⟩], fun p => if p = way 3 1 then true else false, 2, 1, 1, 1⟩ := by
  unfold wD8
  rw [w7]
  rfl
theorem w9 : wD9 = ⟨3, [⟨1, 3, [98]⟩], fun p => if p = way 1 3 then false else if p = way 3 1 then true else false, 2, 1, 1, 1⟩ := by
  unfold wD9
  rw [w8]
  rfl
theorem w10 : wD10 = ⟨3, [], fun p => if p = way 1 3 then false else if p = way 3 1 then true else false, 2, 1, 2, 1⟩ := by
  unfold wD10
  rw [w9]
  rfl
theorem f1 (G : List Ob) : tokAt (wX G) 0 = newV G 3 := by unfold newV; rw [if_neg (by decide)]; rfl
theorem f2 (G : List Ob) : true = sendOk (wN1 G) (wLa G) := by rw [sendOk_data, d1]; rfl
theorem f3 (G : List Ob) : true = sendOk (wN2 G) (wLb G) := by rw [sendOk_data, d2]; rfl
theorem f4 (G : List Ob) : true = dblOk (wN3 G) 0 := by rw [dblOk_data, d3]; rfl
theorem f5 (G : List Ob) : ∃ v, dlvL (wG4 G) (wN4 G) 2 = ⟨1, 2, v, [97]⟩ := lt_of (by rw [dlvL_data, d4]; rfl)
theorem f5' (G : List Ob) : true = dlvOk (wN4 G) 2 := by rw [dlvOk_data, d4]; rfl
theorem f6 (G : List Ob) : true = lookB (wN5 G) 0 := by rw [lookB_data, d5]; rfl
theorem len_data (N : NetM) : N.row.length = N.data.row.length := by simp [NetM.data]
theorem f6' (G : List Ob) : (1 : Int) = ((wN6 G).row.length : Nat) := by rw [len_data, d6]; rfl
theorem nodes_data (N : NetM) : N.nodes = N.data.nodes := rfl
theorem f7 (G : List Ob) : true = wayB (wN6 G).nodes 3 1 := by rw [nodes_data, d6]; rfl
theorem f8 (G : List Ob) : false = dlvOk (wN7 G) 0 := by rw [dlvOk_data, d7]; rfl
theorem f8' (G : List Ob) : dlvL (wG7 G) (wN7 G) 0 = ⟨0, 0, .slice none 0 0, []⟩ := by unfold dlvL; rw [← f8]; rfl
theorem f9 (G : List Ob) : true = wayB (wN8 G).nodes 1 3 := by rw [nodes_data, d8]; rfl
theorem f10 (G : List Ob) : ∃ v, dlvL (wG9 G) (wN9 G) 0 = ⟨1, 3, v, [98]⟩ := lt_of (by rw [dlvL_data, d9]; rfl)
theorem f10' (G : List Ob) : true = dlvOk (wN9 G) 0 := by rw [dlvOk_data, d9]; rfl
theorem sent_data (N : NetM) : N.sent = N.data.s := rfl
theorem doubled_data (N : NetM) : N.doubled = N.data.d := rfl
theorem delivered_data (N : NetM) : N.delivered = N.data.v := rfl
theorem lost_data (N : NetM) : N.lost = N.data.l := rfl
theorem f11 (G : List Ob) : (2 : Int) = (wN10 G).sent := by rw [sent_data, d10, w10]
theorem f12 (G : List Ob) : (1 : Int) = (wN10 G).doubled := by rw [doubled_data, d10, w10]
theorem f13 (G : List Ob) : (2 : Int) = (wN10 G).delivered := by rw [delivered_data, d10, w10]
theorem f14 (G : List Ob) : (1 : Int) = (wN10 G).lost := by rw [lost_data, d10, w10]
def treeWorks : Tree :=
 (.call 0 1200 [(.int .i64 (.lit 3)), (.var 199)]
 (.call 8 4200 [(.hnd 1200), (.lit (.pointer none)), (.var 2199)]
 (.split (.var 4200)
 (leafG (.bool (.lit false)) .nil 2199)
 (.call 10 7200 [(.int .u8 (.lit 97)), (.var 2199)]
 (.call 11 8200 [(.hnd 7200), (.var 8199)]
 (.call 1 9200 [(.hnd 1200), (.int .i64 (.lit 1)), (.int .i64 (.lit 2)), (.hnd 8200), (.var 9199)]
 (.split (.var 9200)
 (.call 10 14200 [(.int .u8 (.lit 98)), (.var 10199)]
 (.call 11 15200 [(.hnd 14200), (.var 15199)]
 (.call 1 16200 [(.hnd 1200), (.int .i64 (.lit 1)), (.int .i64 (.lit 3)), (.hnd 15200), (.var 16199)]
 (.split (.var 16200)
 (.call 2 21200 [(.hnd 1200), (.int .i64 (.lit 0)), (.var 17199)]
 (.split (.var 21200)
 (.call 3 25200 [(.hnd 1200), (.int .i64 (.lit 2)), (.var 22199)]
 (.call 4 33200 [(.hnd 1200), (.int .i64 (.lit 0)), (.var 26199)]
 (.call 5 36200 [(.hnd 1200), (.var 34199)]
 (.call 6 39200 [(.hnd 1200), (.int .i64 (.lit 3)), (.int .i64 (.lit 1)), (.bool (.lit true)), (.var 37199)]
 (.call 3 42200 [(.hnd 1200), (.int .i64 (.lit 0)), (.var 40199)]
 (.call 6 50200 [(.hnd 1200), (.int .i64 (.lit 1)), (.int .i64 (.lit 3)), (.bool (.lit false)), (.var 43199)]
 (.call 3 53200 [(.hnd 1200), (.int .i64 (.lit 0)), (.var 51199)]
 (.call 7 61200 [(.hnd 1200), (.var 54199)]
 (.split (.var 25203)
 (.split (.cmp .eql (.var 25200) (.lit 1))
 (.split (.cmp .eql (.var 25201) (.lit 2))
 (.call 12 92200 [(.hnd 25202), (.var 62199)]
 (.call 13 94200 [(.hnd 92200), (.lit (.string ⟨#[97]⟩)), (.var 62199)]
 (.split (.var 94200)
 (.split (.var 33200)
 (.split (.cmp .eql (.var 36200) (.lit 1))
 (.split (.var 39200)
 (.split (.var 42203)
 (leafG (.bool (.lit false)) .nil 62199)
 (.split (.var 50200)
 (.split (.var 53203)
 (.split (.cmp .eql (.var 53200) (.lit 1))
 (.split (.cmp .eql (.var 53201) (.lit 3))
 (.call 12 139200 [(.hnd 53202), (.var 62199)]
 (.call 13 141200 [(.hnd 139200), (.lit (.string ⟨#[98]⟩)), (.var 62199)]
 (.split (.var 141200)
 (.split (.cmp .eql (.var 61200) (.lit 2))
 (.split (.cmp .eql (.var 61201) (.lit 1))
 (.split (.cmp .eql (.var 61202) (.lit 2))
 (leafG (.bool (.cmp .eql (.var 61203) (.lit 1))) .nil 62199)
 (leafG (.bool (.lit false)) .nil 62199))
 (leafG (.bool (.lit false)) .nil 62199))
 (leafG (.bool (.lit false)) .nil 62199))
 (leafG (.bool (.lit false)) .nil 62199))))
 (leafG (.bool (.lit false)) .nil 62199))
 (leafG (.bool (.lit false)) .nil 62199))
 (leafG (.bool (.lit false)) .nil 62199))
 (leafG (.bool (.lit false)) .nil 62199)))
 (leafG (.bool (.lit false)) .nil 62199))
 (leafG (.bool (.lit false)) .nil 62199))
 (leafG (.bool (.lit false)) .nil 62199))
 (leafG (.bool (.lit false)) .nil 62199))))
 (leafG (.bool (.lit false)) .nil 62199))
 (leafG (.bool (.lit false)) .nil 62199))
 (leafG (.bool (.lit false)) .nil 62199))))))))))
 (leafG (.bool (.lit false)) .nil 22199)))
 (leafG (.bool (.lit false)) .nil 17199)))))
 (leafG (.bool (.lit false)) .nil 10199))))))))
theorem works_holds : worksC.holds Try.prog (conR worksR) := by
  refine con_of_runG (cs := wp) (S := wpS) (LT := []) (depth := 1) (fuel := 10) (nv := 200) (av := []) (T := treeWorks) wp_holds (by kernel_rfl) (by kernel_rfl) (by kernel_rfl) ?_
  rintro G l e0 ⟨rfl, q0, hG⟩
  refine ⟨noLoops, (Env.ofL []).st (encG G), rfl, rfl, ?_⟩
  refine sem_step G [.int .i64 3] ((Env.ofL [tokAt (wX G) 0]).ans (encG (wG1 G))) rfl rfl ⟨3, rfl, f1 G, rfl⟩ ?_
  have hlx : wX G < (wG1 G).length := (List.getElem?_eq_some_iff.1 (i1 G).ob).1
  refine sem_step (wG1 G) [tokAt (wX G) 0, .pointer none] (Env.ofL [.bool false]) rfl rfl ⟨_, _, false, rfl, ⟨rfl, rfl, .inr ⟨_, _, rfl, hlx⟩⟩, rfl⟩ ?_
  refine sem_split (fun h => by cases h) (fun _ => ?_)
  refine sem_step (wG1 G) [.int .u8 97] _ rfl rfl (lit_bs _ _) ?_
  refine sem_step (litG (wG1 G) 97) [tok (wG1 G).length] _ rfl rfl (lit_conv _ _) ?_
  refine sem_step (litG (wG1 G) 97) [tokAt (wX G) 0, .int .i64 1, .int .i64 2, tok (wG1 G).length] ((Env.ofL [.bool true]).ans (encG (wG2 G))) rfl rfl ⟨wX G, wN1 G, wLa G, rfl, i1' G, lit_sl _ _, f2 G, rfl⟩ ?_
  refine sem_split (fun _ => ?_) (fun h => by cases h)
  refine sem_step (wG2 G) [.int .u8 98] _ rfl rfl (lit_bs _ _) ?_
  refine sem_step (litG (wG2 G) 98) [tok (wG2 G).length] _ rfl rfl (lit_conv _ _) ?_
  refine sem_step (litG (wG2 G) 98) [tokAt (wX G) 0, .int .i64 1, .int .i64 3, tok (wG2 G).length] ((Env.ofL [.bool true]).ans (encG (wG3 G))) rfl rfl ⟨wX G, wN2 G, wLb G, rfl, i2' G, lit_sl _ _, f3 G, rfl⟩ ?_
  refine sem_split (fun _ => ?_) (fun h => by cases h)
  refine sem_step (wG3 G) [tokAt (wX G) 0, .int .i64 0] ((Env.ofL [.bool true]).ans (encG (wG4 G))) rfl rfl ⟨wX G, wN3 G, 0, rfl, i3 G, f4 G, rfl⟩ ?_
  refine sem_split (fun _ => ?_) (fun h => by cases h)
  obtain ⟨v1, hv1⟩ := f5 G
  have b1 : Dst (wG5 G) v1 1 1 [.int .u8 97] := by have := dlv_dst (i4 G) 2; rw [hv1] at this; exact this
  refine sem_step (wG4 G) [tokAt (wX G) 0, .int .i64 2] ((Env.ofL [.int .i64 1, .int .i64 2, v1, .bool true]).ans (encG (wG5 G))) rfl rfl ⟨wX G, wN4 G, 2, rfl, i4 G, by rw [hv1]; rfl, by rw [hv1]; rfl, by rw [hv1]; rfl, f5' G, rfl⟩ ?_
  refine sem_step (wG5 G) [tokAt (wX G) 0, .int .i64 0] ((Env.ofL [.bool true]).ans (encG (wG6 G))) rfl rfl ⟨wX G, wN5 G, 0, rfl, (s5 G).is_, f6 G, rfl⟩ ?_
  refine sem_step (wG6 G) [tokAt (wX G) 0] ((Env.ofL [.int .i64 1]).ans (encG (wG6 G))) rfl rfl ⟨wX G, wN6 G, rfl, (s6 G).is_, f6' G, rfl⟩ ?_
  refine sem_step (wG6 G) [tokAt (wX G) 0, .int .i64 3, .int .i64 1, .bool true] ((Env.ofL [.bool true]).ans (encG (wG7 G))) rfl rfl ⟨wX G, wN6 G, 3, 1, true, rfl, (s6 G).is_, f7 G, rfl⟩ ?_
  refine sem_step (wG7 G) [tokAt (wX G) 0, .int .i64 0] ((Env.ofL [.int .i64 0, .int .i64 0, .slice none 0 0, .bool false]).ans (encG (wG8 G))) rfl rfl ⟨wX G, wN7 G, 0, rfl, (s7 G).is_, by rw [f8']; rfl, by rw [f8']; rfl, by rw [f8']; rfl, f8 G, rfl⟩ ?_
  refine sem_step (wG8 G) [tokAt (wX G) 0, .int .i64 1, .int .i64 3, .bool false] ((Env.ofL [.bool true]).ans (encG (wG9 G))) rfl rfl ⟨wX G, wN8 G, 1, 3, false, rfl, (s8 G).is_, f9 G, rfl⟩ ?_
  obtain ⟨v2, hv2⟩ := f10 G
  have b2 : Dst (worksG G) v2 1 1 [.int .u8 98] := by have := dlv_dst (s9 G).is_ 0; rw [hv2] at this; exact this
  have b1' : Dst (worksG G) v1 1 1 [.int .u8 97] := (s6_10 G).dst (s5 G).is_ b1
  refine sem_step (wG9 G) [tokAt (wX G) 0, .int .i64 0] ((Env.ofL [.int .i64 1, .int .i64 3, v2, .bool true]).ans (encG (worksG G))) rfl rfl ⟨wX G, wN9 G, 0, rfl, (s9 G).is_, by rw [hv2]; rfl, by rw [hv2]; rfl, by rw [hv2]; rfl, f10' G, rfl⟩ ?_
  refine sem_step (worksG G) [tokAt (wX G) 0] ((Env.ofL [.int .i64 2, .int .i64 1, .int .i64 2, .int .i64 1]).ans (encG (worksG G))) rfl rfl ⟨wX G, wN10 G, rfl, (s10 G).is_, f11 G, f12 G, f13 G, f14 G, rfl⟩ ?_
  refine sem_split (fun _ => ?_) (fun h => by cases h)
  refine sem_split (fun _ => ?_) (fun h => by cases h)
  refine sem_split (fun _ => ?_) (fun h => by cases h)
  refine sem_step (worksG G) [v1] (Env.ofL [.string (strOf [97])]) rfl (by show [oneOf v1, _] = _; rw [oneOf_eq (dst_sl b1 rfl).one]; rfl) ⟨v1, [97], rfl, dst_sl b1' rfl, rfl⟩ ?_
  refine sem_step (worksG G) [.string (strOf [97]), .string { data := #[97] }] (Env.ofL [.bool true]) rfl rfl ⟨_, _, true, rfl, ⟨_, _, rfl, rfl, ?_⟩, rfl⟩ ?_
  · exact (beq_self_eq_true (strOf [97]).toList).symm
  refine sem_split (fun _ => ?_) (fun h => by cases h)
  refine sem_split (fun _ => ?_) (fun h => by cases h)
  refine sem_split (fun _ => ?_) (fun h => by cases h)
  refine sem_split (fun _ => ?_) (fun h => by cases h)
  refine sem_split (fun h => by cases h) (fun _ => ?_)
  refine sem_split (fun _ => ?_) (fun h => by cases h)
  refine sem_split (fun _ => ?_) (fun h => by cases h)
  refine sem_split (fun _ => ?_) (fun h => by cases h)
  refine sem_split (fun _ => ?_) (fun h => by cases h)
  refine sem_step (worksG G) [v2] (Env.ofL [.string (strOf [98])]) rfl (by show [oneOf v2, _] = _; rw [oneOf_eq (dst_sl b2 rfl).one]; rfl) ⟨v2, [98], rfl, dst_sl b2 rfl, rfl⟩ ?_
  refine sem_step (worksG G) [.string (strOf [98]), .string { data := #[98] }] (Env.ofL [.bool true]) rfl rfl ⟨_, _, true, rfl, ⟨_, _, rfl, rfl, ?_⟩, rfl⟩ ?_
  · exact (beq_self_eq_true (strOf [98]).toList).symm
  refine sem_split (fun _ => ?_) (fun h => by cases h)
  refine sem_split (fun _ => ?_) (fun h => by cases h)
  refine sem_split (fun _ => ?_) (fun h => by cases h)
  refine sem_split (fun _ => ?_) (fun h => by cases h)
  exact sem_retG rfl (by show _ = Value.bool (e0.b 0); rw [q0]; rfl) trivial (by rw [hG]; rfl)
end Go.Proofs.Yteklnfajpignoaa
