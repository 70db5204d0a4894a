/- What is proved: the contracts of same and of plays: a call of both nets answers the same. No condition but those each law names. -/
import Derived.Test.YteklnfajpignoaaR6
import Derived.Test.YteklnfajpignoaaK4
namespace Go.Proofs.Yteklnfajpignoaa
open Sx hiding Sl
set_option maxRecDepth 100000

/-- same. -/
def sameLR (G : List Ob) (l : List Value) (e : Env) : Prop := ∃ (p : Lt) (q : RL), l = [.agg p.cells.toArray, .agg q.cells.toArray] ∧ Sx.Sl G p.v 1 p.bs.length (p.bs.map (Value.int .u8)) ∧ Sx.Sl G q.v 1 q.bs.length (q.bs.map (Value.int .u8)) ∧ p.bs.length ≤ 1000000 ∧ e.b 0 = eqL p.data q.data ∧ e.g gv = encG G
def sameLC : Con := mkCon 17 [] (.bool (.var 0)) 2
def treeSameL : Tree :=
 (.split (.cmp .eql (.var 0) (.var 3))
 (.split (.cmp .eql (.var 1) (.var 4))
 (.call 0 20200 [(.hnd 2), (.hnd 5), (.var 199)]
 (leafG (.bool (.var 20200)) .nil 21199))
 (leafG (.bool (.lit false)) .nil 199))
 (leafG (.bool (.lit false)) .nil 199))
theorem sameL_holds : sameLC.holds Try.prog (conR sameLR) := by
  refine con_of_runG (cs := [sameC]) (S := [conR sameR]) (LT := []) (depth := 1) (fuel := 10) (nv := 200) (av := [.agg (letE 0), .agg (rE 3)]) (T := treeSameL) ⟨same_holds, trivial⟩ (by kernel_rfl) (by kernel_rfl) (by kernel_rfl) ?_
  rintro G l e0 ⟨p, q, rfl, hp, hq, hl, he, hG⟩
  have o1 := hp.one
  have o2 := hq.one
  refine ⟨noLoops, (Env.ofL ([.int .i64 p.f, .int .i64 p.t, p.v] ++ q.cells)).st (encG G), ?_, rfl, ?_⟩
  · show _ = [Value.agg #[.int .i64 p.f, .int .i64 p.t, oneOf p.v], Value.agg #[.int .i64 q.f, .int .i64 q.t, oneOf q.v, .bool q.w]]
    rw [oneOf_eq o1, oneOf_eq o2]
    rfl
  unfold eqL at he
  refine sem_split (fun h => ?_) (fun h => ?_)
  rotate_left
  · have h : (p.f == q.f) = false := h
    have h : ¬ p.f = q.f := by simpa using h
    rw [decide_eq_false (show ¬ p.data.f = q.data.f from h), Bool.false_and, Bool.false_and] at he
    exact sem_retG rfl (by show Value.bool false = Value.bool (e0.b 0); rw [he]) trivial (by rw [hG]; rfl)
  have h : (p.f == q.f) = true := h
  have h : p.f = q.f := by simpa using h
  have h1 : p.data.f = q.data.f := h
  refine sem_split (fun h => ?_) (fun h => ?_)
  rotate_left
  · have h : (p.t == q.t) = false := h
    have h : ¬ p.t = q.t := by simpa using h
    rw [decide_eq_false (show ¬ p.data.t = q.data.t from h), Bool.and_false, Bool.false_and] at he
    exact sem_retG rfl (by show Value.bool false = Value.bool (e0.b 0); rw [he]) trivial (by rw [hG]; rfl)
  have h : (p.t == q.t) = true := h
  have h : p.t = q.t := by simpa using h
  have h2 : p.data.t = q.data.t := h
  rw [decide_eq_true h1, decide_eq_true h2, Bool.true_and, Bool.true_and] at he
  refine sem_step G [p.v, q.v] ((Env.ofL [.bool (decide (p.bs = q.bs))]).ans (encG G)) rfl (by show [oneOf p.v, oneOf q.v, _] = _; rw [oneOf_eq o1, oneOf_eq o2]; rfl) ⟨_, _, _, _, rfl, hp, hq, hl, rfl, rfl⟩ ?_
  exact sem_retG rfl (by show Value.bool (decide (p.bs = q.bs)) = Value.bool (e0.b 0); rw [he]; rfl) trivial (by rw [hG]; rfl)
theorem eqL_self (x : LD) : eqL x x = true := by simp [eqL]
/-- Both nets in the store, and they hold the same. -/
structure Both (G : List Ob) (x : Nat) (N : NetM) (y : Nat) (R : RefM) : Prop where
  net : IsNet G x N
  ref : IsRef G y R
  ne : x ≠ y
  alike : Alike R N.data
theorem Dst.fr {G G' : List Ob} {y : Nat} {v : Value} {len : Nat} {xs : List Value} (h : Sx.Dst G v 1 len xs) (hy : ∃ c, G[y]? = some (.ptr c)) (hf : FrR y G G') : Sx.Dst G' v 1 len xs :=
  Dst.mono h fun d hd => hf.2 _ _ hd (ptr_ne hy hd fun _ e => by cases e) (fun _ _ e => by cases e) fun _ _ e => by cases e
theorem cloneV_new {G : List Ob} {v : Value} {n d : Nat} (h : cloneV G v n = tok d) : G.length ≤ d := by
  unfold cloneV at h
  split at h
  · cases h
  · split at h
    · have := tok_inj h
      omega
    · have := tok_inj h
      omega
/-- What is spoilt is no letter's. -/
theorem spoil_get {G : List Ob} {v : Value} {n : Nat} {cells : List Value} (hv : Dst G v 1 n cells) (k : Nat) (o : Ob) (ho : G[k]? = some o) (hno : ∀ len c, o ≠ .row 1 len c) : (spG G v n)[k]? = some o := by
  unfold spG
  rw [putV_other hv]
  · exact ho
  · intro e
    have := (dst_lt hv e).2
    rw [ho] at this
    cases this
    exact hno _ _ rfl
theorem spoil_ro {G : List Ob} {v : Value} {n : Nat} {cells : List Value} (hv : Dst G v 1 n cells) : KeepsRo G (spG G v n) := fun k s m c hk => spoil_get hv k _ hk fun _ _ e => by cases e
theorem IsNet.spoil {G : List Ob} {x : Nat} {N : NetM} (h : IsNet G x N) {v : Value} {n : Nat} {cells : List Value} (hv : Dst G v 1 n cells) : IsNet (spG G v n) x N :=
  ⟨spoil_get hv _ _ h.ob fun _ _ e => (by cases e), Dst.mono h.row fun d hd => spoil_get hv d _ hd fun _ _ e => (by cases e), fun l hl => ⟨(h.body l hl).1.keep (spoil_ro hv), (h.body l hl).2⟩, spoil_get hv _ _ h.map fun _ _ e => (by cases e), h.keys, h.len⟩
theorem IsRef.spoil {G : List Ob} {y : Nat} {R : RefM} (h : IsRef G y R) {v : Value} {n : Nat} {cells : List Value} (hv : Dst G v 1 n cells) (hne : ∀ l ∈ R.all, ∀ d : Nat, l.v = tok d → v ≠ tok d) : IsRef (spG G v n) y R := by
  refine ⟨spoil_get hv _ _ h.ob fun _ _ e => (by cases e), Dst.mono h.row fun d hd => spoil_get hv d _ hd fun _ _ e => (by cases e), fun l hl => ⟨?_, (h.body l hl).2⟩, Dst.mono h.cut fun d hd => spoil_get hv d _ hd fun _ _ e => (by cases e)⟩
  rcases (h.body l hl).1 with e | ⟨d, e, hd⟩
  · exact .inl e
  · refine .inr ⟨d, e, ?_⟩
    unfold spG
    rw [putV_other hv _ (hne l hl d e)]
    exact hd
theorem IsRef.under {G : List Ob} {y : Nat} {R : RefM} (h : IsRef G y R) : ∀ l ∈ R.all, ∀ d, l.v = tok d → d < G.length := fun l hl _ e => (dst_lt (h.body l hl).1 e).1
theorem IsRef.ptr {G : List Ob} {y : Nat} {R : RefM} (h : IsRef G y R) : ∃ c, G[y]? = some (.ptr c) := ⟨_, h.ob⟩
/-- What a call of both leaves. -/
structure PlO where
  G : List Ob
  N : NetM
  R : RefM
section
variable (G : List Ob) (x : Nat) (N : NetM) (y : Nat) (R : RefM) (a : AD)
def pLt : Lt := ⟨a.a, a.b, cpV G a.bs, a.bs⟩
def pG2 : List Ob := sendG (cpG G a.bs) x N (pLt G a)
def pSend : PlO := ⟨spG (rsendG (pG2 G x N a) y R a.a a.b a.bs) (cpV G a.bs) a.bs.length, sendN (cpG G a.bs) N (pLt G a), rsendN (pG2 G x N a) R a.a a.b a.bs⟩
def pLook : PlO := ⟨spG (rlookG (lookG G N a.a) R a.a) (lookL G N a.a).v (lookL G N a.a).bs.length, N, R⟩
noncomputable def pDlv : PlO := ⟨rdlvG (dlvG G x N a.a) y R a.a, dlvN G x N a.a, rdlvN R a.a⟩
noncomputable def pDbl : PlO := ⟨rdblG (dblG G x N a.a) y R a.a, dblN G N a.a, rdblN (dblG G x N a.a) R a.a⟩
def pLos : PlO := ⟨rlosG (losG G x N a.a) y R a.a, losN G x N a.a, rlosN R a.a⟩
noncomputable def pCut (c : Bool) : PlO := ⟨rcutG (cutG G N a.a a.b c) y R a.a a.b c, cutN N a.a a.b c, rcutN (cutG G N a.a a.b c) y R a.a a.b c⟩
noncomputable def plO : PlO := if a.what = 0 then pSend G x N y R a else if a.what = 1 then pLook G N R a else if a.what = 2 then pDlv G x N y R a else if a.what = 3 then pDbl G x N y R a else if a.what = 4 then pLos G x N y R a else if a.what = 5 then pCut G N y R a true else pCut G N y R a false
end
structure PlOk (G : List Ob) (x y : Nat) (R : RefM) (O : PlO) : Prop where
  both : Both O.G x O.N y O.R
  ro : KeepsRo G O.G
  all : O.R.all.length ≤ R.all.length + 1
  cut : O.R.cuts.length ≤ R.cuts.length + 1
section
variable {G : List Ob} {x : Nat} {N : NetM} {y : Nat} {R : RefM} {a : AD}
/-- The net's call, then the other's. -/
theorem PlOk.of {G1 G2 : List Ob} {N1 : NetM} {R2 : RefM} (h : Both G x N y R) (hs : Step x N G N1 G1) (h2 : IsRef G2 y R2) (hf : FrR y G1 G2) (ha : Alike R2 N1.data) (h3 : R2.all.length ≤ R.all.length + 1) (h4 : R2.cuts.length ≤ R.cuts.length + 1) : PlOk G x y R ⟨G2, N1, R2⟩ := by
  have hr1 := h.ref.net h.net h.ne hs
  exact ⟨⟨hs.is_.ref h.ne hr1.ptr hf, h2, h.ne, ha⟩, fun k s m c hk => hf.ro hr1.ptr k s m c (hs.keepsRo h.net k s m c hk), h3, h4⟩
theorem send_ok (h : Both G x N y R) (hb : a.bs.length ≤ 1000000) : PlOk G x y R (pSend G x N y R a) := by
  have hcp := cp_at G a.bs
  have hc := Step.of_keeps h.net hcp.keep hcp.len
  have hs1 : Step x N (cpG G a.bs) (sendN (cpG G a.bs) N (pLt G a)) (pG2 G x N a) := Step.send hc.is_ (dst_sl hcp.dst (by simp))
  have hr0 := h.ref.net h.net h.ne hc
  have hr1 := hr0.net hc.is_ h.ne hs1
  have hr2 := rsend_is a.a a.b hr1 hb
  have hf := rsend_fr a.a a.b a.bs hr1
  have hd1 : Dst (pG2 G x N a) (cpV G a.bs) 1 a.bs.length (a.bs.map (Value.int .u8)) := hs1.dst hc.is_ hcp.dst
  have hd2 := Dst.fr hd1 hr1.ptr hf
  have hal : Alike (rsendN (pG2 G x N a) R a.a a.b a.bs) (sendN (cpG G a.bs) N (pLt G a)).data := by
    rw [send_data]
    unfold rsendN
    by_cases hok : R.sendOk a.a a.b a.bs.length = true
    · rw [if_pos hok]
      exact h.alike.send (pLt G a).data hok _ _
    · rw [if_neg hok]
      exact h.alike.send_no (pLt G a).data (show R.sendOk a.a a.b a.bs.length = false by simpa using hok)
  have hO := PlOk.of h (hc.trans hs1) hr2 hf hal (by unfold rsendN; split <;> simp [sndR, rpushR]) (by unfold rsendN; split <;> simp [sndR, rpushR])
  refine ⟨⟨hO.both.net.spoil hd2, hO.both.ref.spoil hd2 fun l hl d e e' => ?_, h.ne, hal⟩, hO.ro.trans (spoil_ro hd2), hO.all, hO.cut⟩
  have hdn := hcp.new d e'
  have hd1' := (dst_lt hd1 e').1
  have hl : l ∈ (rsendN (pG2 G x N a) R a.a a.b a.bs).all := hl
  unfold rsendN at hl
  split at hl
  · have hl : l ∈ R.all ++ [sndL (pG2 G x N a) a.a a.b a.bs] := hl
    rcases List.mem_append.1 hl with hl | hl
    · have := h.ref.under l hl d e
      omega
    · rw [List.mem_singleton] at hl
      subst hl
      have := (cp_at (pG2 G x N a) a.bs).new d e
      omega
  · have := h.ref.under l hl d e
    omega
theorem plook_ok (h : Both G x N y R) : PlOk G x y R (pLook G N R a) := by
  have hs := Step.look h.net a.a
  have hr1 := h.ref.net h.net h.ne hs
  have hk := rlook_fr (G := lookG G N a.a) (R := R) a.a
  have hO := PlOk.of h hs (hr1.keeps hk.1) (FrR.keeps hk.1 hk.2) h.alike (by omega) (by omega)
  have hd := look_dst h.net a.a
  have hd2 : Dst (rlookG (lookG G N a.a) R a.a) _ 1 _ _ := Dst.mono hd fun d => hk.1 d _
  refine ⟨⟨hO.both.net.spoil hd2, hO.both.ref.spoil hd2 fun l hl d e e' => ?_, h.ne, h.alike⟩, hO.ro.trans (spoil_ro hd2), hO.all, hO.cut⟩
  have h1 := h.ref.under l hl d e
  unfold lookL at e'
  split at e'
  · have := cloneV_new e'
    omega
  · cases e'
theorem dlv_ok (h : Both G x N y R) (hk : Rng a.a) : PlOk G x y R (pDlv G x N y R a) := by
  have hs := Step.dlv h.net a.a
  have hr1 := h.ref.net h.net h.ne hs
  refine PlOk.of h hs (rdlv_is a.a hr1) (rdlv_fr a.a hr1) ?_ ?_ ?_
  · rw [dlv_data]
    unfold rdlvN
    by_cases hok : R.dlvOk a.a = true
    · rw [if_pos hok]; exact h.alike.dlv hk hok
    · rw [if_neg hok]; exact h.alike.dlv_no hk (by simpa using hok)
  · unfold rdlvN
    split
    · show (R.taken a.a).length ≤ _
      rw [taken_length]; omega
    · omega
  · unfold rdlvN
    split
    · show R.cuts.length ≤ _
      omega
    · omega
theorem los_ok (h : Both G x N y R) (hk : Rng a.a) : PlOk G x y R (pLos G x N y R a) := by
  have hs := Step.los h.net a.a
  have hr1 := h.ref.net h.net h.ne hs
  refine PlOk.of h hs (rlos_is a.a hr1) (rlos_fr a.a hr1) ?_ ?_ ?_
  · rw [los_data]
    unfold rlosN
    by_cases hok : R.lookB a.a = true
    · rw [if_pos hok]; exact h.alike.los hk hok
    · rw [if_neg hok]; exact h.alike.los_no hk (by simpa using hok)
  · unfold rlosN
    split
    · show (R.taken a.a).length ≤ _
      rw [taken_length]; omega
    · omega
  · unfold rlosN
    split
    · show R.cuts.length ≤ _
      omega
    · omega
theorem look_waits {k : Int} (hk : Rng k) (hb : R.lookB k = true) : (R.lookO k).w = true := by
  obtain ⟨p, hp, _, g2, g3, _⟩ := RefM.look_spec hk hb
  have hm := List.mem_of_getElem? g3
  rw [g2]
  unfold waitL at hm
  exact (List.mem_filter.1 hm).2
theorem dbl_ok (h : Both G x N y R) (hk : Rng a.a) : PlOk G x y R (pDbl G x N y R a) := by
  have hs := Step.dbl h.net a.a
  have hr1 := h.ref.net h.net h.ne hs
  refine PlOk.of h hs (rdbl_is a.a hr1) (rdbl_fr a.a hr1) ?_ ?_ ?_
  · rw [dbl_data]
    unfold rdblN
    by_cases hok : R.dblOk a.a = true
    · rw [if_pos hok]
      have := h.alike.dbl hk hok (tok ((cpG (dblG G x N a.a) (R.lookO a.a).bs).length + 1)) (cpV (dblG G x N a.a) (R.lookO a.a).bs)
      rw [← look_waits hk (RefM.dbl_look hok)] at this
      exact this
    · rw [if_neg hok]; exact h.alike.dbl_no hk (by simpa using hok)
  · unfold rdblN
    split
    · show (R.all ++ [_]).length ≤ _
      simp
    · omega
  · unfold rdblN
    split
    · show R.cuts.length ≤ _
      omega
    · omega
theorem cut_ok (h : Both G x N y R) (c : Bool) : PlOk G x y R (pCut G N y R a c) := by
  have hs := Step.cut h.net a.a a.b c
  have hr1 := h.ref.net h.net h.ne hs
  have hle := outW_le (way a.a a.b) R.cuts
  refine PlOk.of h hs (rcut_is a.a a.b c hr1) (rcut_fr a.a a.b c hr1) ?_ ?_ ?_
  · rw [cut_data]
    unfold rcutN
    by_cases hok : wayB R.nodes a.a a.b = true
    · rw [if_pos hok]
      have := fun cv => h.alike.cut c hok cv
      unfold RefM.cutL at this
      cases c
      · rw [if_neg (by simp)]
        have := this (rcutV1 (cutG G N a.a a.b false) R (way a.a a.b))
        rw [if_neg (by simp), List.append_nil] at this
        exact this
      · rw [if_pos rfl]
        exact this _
    · rw [if_neg hok]; exact h.alike.cut_no c (by simpa using hok)
  · unfold rcutN
    split
    · split
      · show R.all.length ≤ _
        omega
      · show R.all.length ≤ _
        omega
    · omega
  · unfold rcutN
    split
    · split
      · show (outW _ R.cuts ++ [_]).length ≤ _
        rw [List.length_append]
        show _ + 1 ≤ _
        omega
      · show (outW _ R.cuts).length ≤ _
        omega
    · omega
theorem plO_ok (h : Both G x N y R) (hk : Rng a.a) (hb : a.bs.length ≤ 1000000) : PlOk G x y R (plO G x N y R a) := by
  unfold plO
  split
  · exact send_ok h hb
  split
  · exact plook_ok h
  split
  · exact dlv_ok h hk
  split
  · exact dbl_ok h hk
  split
  · exact los_ok h hk
  split
  · exact cut_ok h _
  · exact cut_ok h _
end
def pc : List Con := [pickC, copyC, spoilC, sameLC, sendC, rsendC, lookC, rlookC, dlvC, rdlvC, dblC, rdblC, losC, rlosC, cutC, rcutC]
def pcS : List ConS := [pickS, conR copyR, conR spoilR, conR sameLR, conR sendR, conR rsendRr, conR lookR, conR rlookR, conR dlvR, conR rdlvRr, conR dblR, conR rdblRr, conR losR, conR rlosRr, conR cutR, conR rcutRr]
theorem pc_holds : Cons Try.prog pc pcS := ⟨pick_holds, copy_holds, spoil_holds, sameL_holds, send_holds, rsend_holds, look_holds, rlook_holds, dlv_holds, rdlv_holds, dbl_holds, rdbl_holds, los_holds, rlos_holds, cut_holds, rcut_holds, trivial⟩
def playsR (G : List Ob) (l : List Value) (e : Env) : Prop := ∃ x N y R a, l = [tokAt x 0, tokAt y 0, .agg (AD.cells a).toArray] ∧ Both G x N y R ∧ Rng a.a ∧ Body G a.v a.bs ∧ a.bs.length ≤ 1000000 ∧ R.all.length ≤ 1000000 ∧ R.cuts.length ≤ 1000000 ∧ e.b 0 = true ∧ e.g gv = encG (plO G x N y R a).G
def playsC : Con := mkCon 11 [] (.bool (.var 0)) 2
def net1 : E := .pla (.var 0) (.lit 0) 0
def ref1 : E := .pla (.var 1) (.lit 0) 0
def treePlays : Tree :=
 (.call 0 4200 [(.int .i64 (.var 2)), (.int .i64 (.lit 7))]
 (.split (.cmp .eql (.var 4200) (.lit 0))
 (.call 1 9200 [(.hnd 5), (.var 199)]
 (.call 4 17200 [(.pla (.var 0) (.lit 0) 0), (.int .i64 (.var 3)), (.int .i64 (.var 4)), (.hnd 9200), (.var 10199)]
 (.call 5 25200 [(.pla (.var 1) (.lit 0) 0), (.int .i64 (.var 3)), (.int .i64 (.var 4)), (.hnd 5), (.var 18199)]
 (.call 2 29200 [(.hnd 9200), (.var 26199)]
 (leafG (.bool (.iff (.var 17200) (.var 25200))) .nil 30199)))))
 (.split (.cmp .eql (.var 4200) (.lit 1))
 (.call 6 12200 [(.pla (.var 0) (.lit 0) 0), (.int .i64 (.var 3)), (.var 199)]
 (.call 7 22200 [(.pla (.var 1) (.lit 0) 0), (.int .i64 (.var 3)), (.var 13199)]
 (.split (.iff (.var 12203) (.var 22204))
 (.call 3 35200 [(.agg ([(.int .i64 (.var 12200)), (.int .i64 (.var 12201)), (.hnd 12202)])), (.agg ([(.int .i64 (.var 22200)), (.int .i64 (.var 22201)), (.hnd 22202), (.bool (.var 22203))])), (.var 23199)]
 (.call 2 40200 [(.hnd 12202), (.var 36199)]
 (leafG (.bool (.var 35200)) .nil 41199)))
 (.call 2 40200 [(.hnd 12202), (.var 23199)]
 (leafG (.bool (.lit false)) .nil 41199)))))
 (.split (.cmp .eql (.var 4200) (.lit 2))
 (.call 8 14200 [(.pla (.var 0) (.lit 0) 0), (.int .i64 (.var 3)), (.var 199)]
 (.call 9 24200 [(.pla (.var 1) (.lit 0) 0), (.int .i64 (.var 3)), (.var 15199)]
 (.split (.iff (.var 14203) (.var 24204))
 (.call 3 37200 [(.agg ([(.int .i64 (.var 14200)), (.int .i64 (.var 14201)), (.hnd 14202)])), (.agg ([(.int .i64 (.var 24200)), (.int .i64 (.var 24201)), (.hnd 24202), (.bool (.var 24203))])), (.var 25199)]
 (leafG (.bool (.var 37200)) .nil 38199))
 (leafG (.bool (.lit false)) .nil 25199))))
 (.split (.cmp .eql (.var 4200) (.lit 3))
 (.call 10 16200 [(.pla (.var 0) (.lit 0) 0), (.int .i64 (.var 3)), (.var 199)]
 (.call 11 20200 [(.pla (.var 1) (.lit 0) 0), (.int .i64 (.var 3)), (.var 17199)]
 (leafG (.bool (.iff (.var 16200) (.var 20200))) .nil 21199)))
 (.split (.cmp .eql (.var 4200) (.lit 4))
 (.call 12 18200 [(.pla (.var 0) (.lit 0) 0), (.int .i64 (.var 3)), (.var 199)]
 (.call 13 22200 [(.pla (.var 1) (.lit 0) 0), (.int .i64 (.var 3)), (.var 19199)]
 (leafG (.bool (.iff (.var 18200) (.var 22200))) .nil 23199)))
 (.split (.cmp .eql (.var 4200) (.lit 5))
 (.call 14 22200 [(.pla (.var 0) (.lit 0) 0), (.int .i64 (.var 3)), (.int .i64 (.var 4)), (.bool (.lit true)), (.var 199)]
 (.call 15 28200 [(.pla (.var 1) (.lit 0) 0), (.int .i64 (.var 3)), (.int .i64 (.var 4)), (.bool (.lit true)), (.var 23199)]
 (leafG (.bool (.iff (.var 22200) (.var 28200))) .nil 29199)))
 (.call 14 22200 [(.pla (.var 0) (.lit 0) 0), (.int .i64 (.var 3)), (.int .i64 (.var 4)), (.bool (.lit false)), (.var 199)]
 (.call 15 28200 [(.pla (.var 1) (.lit 0) 0), (.int .i64 (.var 3)), (.int .i64 (.var 4)), (.bool (.lit false)), (.var 23199)]
 (leafG (.bool (.iff (.var 22200) (.var 28200))) .nil 29199))))))))))
theorem plays_holds : playsC.holds Try.prog (conR playsR) := by
  refine con_of_runG (cs := pc) (S := pcS) (LT := []) (depth := 1) (fuel := 10) (nv := 200) (av := [net1, ref1, .agg (actE 2)]) (T := treePlays) pc_holds (by kernel_rfl) (by kernel_rfl) (by kernel_rfl) ?_
  rintro G l e0 ⟨x, N, y, R, a, rfl, h, hk, hbo, hbl, hal, hcl, he, hG⟩
  have oa := hbo.one
  refine ⟨noLoops, (Env.ofL ([.int .i64 x, .int .i64 y] ++ AD.cells a)).st (encG G), ?_, rfl, ?_⟩
  · show _ = [_, _, Value.agg #[.int .i64 a.k, .int .i64 a.a, .int .i64 a.b, oneOf a.v]]
    rw [oneOf_eq oa]
    rfl
  have fin : ∀ (ρ : Env) (c : C) (h : Tr (List E)) (g : Nat), c.den ρ = true → ρ.g g = e0.g gv → treeSem pcS noLoops (KF [] (.bool (.var 0)) e0 2) ρ (leafG (.bool c) h g) := fun ρ c h g h1 h2 =>
    sem_retG rfl (by show Value.bool (c.den ρ) = Value.bool (e0.b 0); rw [h1, he]) trivial h2
  refine sem_call pickS (Env.ofL [.int .i64 a.what]) rfl ⟨a.k, 7, rfl, rfl⟩ ?_
  unfold plO at hG
  refine sem_split (fun hw => ?_) (fun hw => ?_)
  · have hw : (a.what == 0) = true := hw
    rw [if_pos (by simpa using hw)] at hG
    have hcp := cp_at G a.bs
    have oc := hcp.dst.one
    have hc := Step.of_keeps h.net hcp.keep hcp.len
    have hs1 : Step x N (cpG G a.bs) (sendN (cpG G a.bs) N (pLt G a)) (pG2 G x N a) := Step.send hc.is_ (dst_sl hcp.dst (by simp))
    have hr0 := h.ref.net h.net h.ne hc
    have hr1 := hr0.net hc.is_ h.ne hs1
    have hf := rsend_fr a.a a.b a.bs hr1
    have hd1 : Dst (pG2 G x N a) (cpV G a.bs) 1 a.bs.length (a.bs.map (Value.int .u8)) := hs1.dst hc.is_ hcp.dst
    have hd2 := Dst.fr hd1 hr1.ptr hf
    have hb1 := hs1.body hc.is_ (hc.body h.net hbo)
    have hso : sendOk N (pLt G a) = R.sendOk a.a a.b a.bs.length := by rw [sendOk_data]; exact h.alike.sendOk _
    refine sem_step G [a.v] ((Env.ofL [cpV G a.bs]).ans (encG (cpG G a.bs))) rfl (by show [oneOf a.v, _] = _; rw [oneOf_eq oa]; rfl) ⟨a.v, a.bs, rfl, hbo.sl, hbl, rfl, rfl⟩ ?_
    refine sem_step (cpG G a.bs) [tokAt x 0, .int .i64 a.a, .int .i64 a.b, cpV G a.bs] ((Env.ofL [.bool (sendOk N (pLt G a))]).ans (encG (pG2 G x N a))) rfl (by show [_, _, _, oneOf (cpV G a.bs), _] = _; rw [oneOf_eq oc]; rfl) ⟨x, N, pLt G a, rfl, hc.is_, dst_sl hcp.dst (by simp), rfl, rfl⟩ ?_
    refine sem_step (pG2 G x N a) [tokAt y 0, .int .i64 a.a, .int .i64 a.b, a.v] ((Env.ofL [.bool (R.sendOk a.a a.b a.bs.length)]).ans (encG (rsendG (pG2 G x N a) y R a.a a.b a.bs))) rfl (by show [_, _, _, oneOf a.v, _] = _; rw [oneOf_eq oa]; rfl) ⟨y, R, a.a, a.b, a.v, a.bs, rfl, hr1, hal, hb1.sl, hbl, rfl, rfl⟩ ?_
    refine sem_step (rsendG (pG2 G x N a) y R a.a a.b a.bs) [cpV G a.bs] ((Env.ofL []).ans (encG (pSend G x N y R a).G)) rfl (by show [oneOf (cpV G a.bs), _] = _; rw [oneOf_eq oc]; rfl) ⟨_, _, _, rfl, hd2, by simp, hbl, rfl⟩ ?_
    refine fin _ _ _ _ ?_ (by rw [hG]; rfl)
    show (sendOk N (pLt G a) == R.sendOk a.a a.b a.bs.length) = true
    rw [hso]
    simp
  have hw : (a.what == 0) = false := hw
  rw [if_neg (by simpa using hw)] at hG
  refine sem_split (fun hw => ?_) (fun hw => ?_)
  · have hw : (a.what == 1) = true := hw
    rw [if_pos (by simpa using hw)] at hG
    have hs := Step.look h.net a.a
    have hr1 := h.ref.net h.net h.ne hs
    have hkk := rlook_fr (G := lookG G N a.a) (R := R) a.a
    have hd := look_dst h.net a.a
    have hd2 : Dst (rlookG (lookG G N a.a) R a.a) _ 1 _ _ := Dst.mono hd fun d => hkk.1 d _
    have hth : lookB N a.a = R.lookB a.a := by rw [lookB_data]; exact h.alike.there hk
    have hdt := look_data G N a.a
    have hll := lookL_len h.net a.a
    obtain ⟨p, hp⟩ : ∃ p, p = lookL G N a.a := ⟨_, rfl⟩
    obtain ⟨q, hq⟩ : ∃ q, q = rlookL (lookG G N a.a) R a.a := ⟨_, rfl⟩
    have hqd : Dst (rlookG (lookG G N a.a) R a.a) q.v 1 q.bs.length (q.bs.map (Value.int .u8)) ∧ p.data = q.data := by
      by_cases hb : R.lookB a.a = true
      · have e1 : rlookG (lookG G N a.a) R a.a = cpG (lookG G N a.a) (R.lookO a.a).bs := by unfold rlookG; rw [if_pos hb]
        have e2 : q = { R.lookO a.a with v := cpV (lookG G N a.a) (R.lookO a.a).bs } := by rw [hq]; unfold rlookL; rw [if_pos hb]
        rw [e1, e2, hp, hdt, h.alike.look hk hb]
        exact ⟨(cp_at _ _).dst, rfl⟩
      · have hb : R.lookB a.a = false := by simpa using hb
        have e2 := (rlook_no (G := lookG G N a.a) hb).2
        rw [← hq] at e2
        rw [e2, hp]
        refine ⟨.inl ⟨rfl, rfl, rfl⟩, ?_⟩
        unfold lookL
        rw [hth, hb]
        rfl
    rw [← hp] at hd hd2 hll
    have op := hd.one
    have oq := hqd.1.one
    refine sem_step G [tokAt x 0, .int .i64 a.a] ((Env.ofL (p.cells ++ [.bool (lookB N a.a)])).ans (encG (lookG G N a.a))) rfl rfl ⟨x, N, a.a, rfl, h.net, by rw [← hp]; rfl, by rw [← hp]; rfl, by rw [← hp]; rfl, rfl, rfl⟩ ?_
    refine sem_step (lookG G N a.a) [tokAt y 0, .int .i64 a.a] ((Env.ofL (q.cells ++ [.bool (R.lookB a.a)])).ans (encG (rlookG (lookG G N a.a) R a.a))) rfl rfl ⟨y, R, a.a, rfl, hr1, hal, by rw [← hq]; rfl, by rw [← hq]; rfl, by rw [← hq]; rfl, by rw [← hq]; rfl, rfl, rfl⟩ ?_
    refine sem_split (fun _ => ?_) (fun h => absurd (show (lookB N a.a == R.lookB a.a) = false from h) (by rw [hth]; simp))
    refine sem_step (rlookG (lookG G N a.a) R a.a) [.agg p.cells.toArray, .agg q.cells.toArray] ((Env.ofL [.bool (eqL p.data q.data)]).ans (encG (rlookG (lookG G N a.a) R a.a))) rfl
      (by show [Value.agg #[.int .i64 p.f, .int .i64 p.t, oneOf p.v], Value.agg #[.int .i64 q.f, .int .i64 q.t, oneOf q.v, .bool q.w], _] = _; rw [oneOf_eq op, oneOf_eq oq]; rfl) ⟨p, q, rfl, dst_sl hd2 (by simp), dst_sl hqd.1 (by simp), hll, rfl, rfl⟩ ?_
    refine sem_step (rlookG (lookG G N a.a) R a.a) [p.v] ((Env.ofL []).ans (encG (pLook G N R a).G)) rfl (by show [oneOf p.v, _] = _; rw [oneOf_eq op]; rfl) ⟨_, _, _, rfl, hd2, by simp, hll, by rw [hp]; rfl⟩ ?_
    refine fin _ _ _ _ ?_ (by rw [hG]; rfl)
    show eqL p.data q.data = true
    rw [hqd.2]
    exact eqL_self _
  have hw : (a.what == 1) = false := hw
  rw [if_neg (by simpa using hw)] at hG
  refine sem_split (fun hw => ?_) (fun hw => ?_)
  · have hw : (a.what == 2) = true := hw
    rw [if_pos (by simpa using hw)] at hG
    have hs := Step.dlv h.net a.a
    have hr1 := h.ref.net h.net h.ne hs
    have hfr := rdlv_fr a.a hr1
    have hd := dlv_dst h.net a.a
    have hd2 := Dst.fr hd hr1.ptr hfr
    have hok : dlvOk N a.a = R.dlvOk a.a := by rw [dlvOk_data]; exact h.alike.dlvOk hk
    have hdt := dlvL_data G N a.a
    obtain ⟨p, hp⟩ : ∃ p, p = dlvL G N a.a := ⟨_, rfl⟩
    obtain ⟨q, hq⟩ : ∃ q, q = rdlvL (dlvG G x N a.a) R a.a := ⟨_, rfl⟩
    have hll : p.bs.length ≤ 1000000 := by
      rw [hp]
      unfold dlvL
      split
      · exact lookL_len h.net _
      · exact Nat.zero_le _
    have hqd : Dst (rdlvG (dlvG G x N a.a) y R a.a) q.v 1 q.bs.length (q.bs.map (Value.int .u8)) ∧ p.data = q.data := by
      by_cases hb : R.dlvOk a.a = true
      · have hlb := RefM.dlv_look hb
        have e1 : rlookG (dlvG G x N a.a) R a.a = cpG (dlvG G x N a.a) (R.lookO a.a).bs := by unfold rlookG; rw [if_pos hlb]
        have e2 : q = { R.lookO a.a with v := cpV (dlvG G x N a.a) (R.lookO a.a).bs } := by rw [hq]; unfold rdlvL rlookL; rw [if_pos hb, if_pos hlb]
        have hkk := rlook_fr (G := dlvG G x N a.a) (R := R) a.a
        have hr2 := hr1.keeps hkk.1
        have hdd : Dst (cpG (dlvG G x N a.a) (R.lookO a.a).bs) (cpV (dlvG G x N a.a) (R.lookO a.a).bs) 1 _ _ := (cp_at _ _).dst
        rw [← e1] at hdd
        have hdd2 := Dst.fr hdd hr2.ptr (off_fr hr2 a.a)
        have hdd3 := Dst.fr (y := y) (G' := rdlvG (dlvG G x N a.a) y R a.a) hdd2 ⟨_, (off_is hr2 hlb).ob⟩ (by unfold rdlvG; rw [if_pos hb]; exact FrR.set _)
        rw [e2]
        refine ⟨hdd3, ?_⟩
        rw [hp, hdt, ← dlvOk_data, hok, if_pos hb, h.alike.look hk hlb]
        rfl
      · have hb : R.dlvOk a.a = false := by simpa using hb
        have e2 : q = ⟨0, 0, .slice none 0 0, [], false⟩ := by rw [hq]; unfold rdlvL; rw [hb]; rfl
        rw [e2]
        refine ⟨.inl ⟨rfl, rfl, rfl⟩, ?_⟩
        rw [hp, hdt, ← dlvOk_data, hok, hb]
        rfl
    rw [← hp] at hd hd2
    have op := hd.one
    have oq := hqd.1.one
    refine sem_step G [tokAt x 0, .int .i64 a.a] ((Env.ofL (p.cells ++ [.bool (dlvOk N a.a)])).ans (encG (dlvG G x N a.a))) rfl rfl ⟨x, N, a.a, rfl, h.net, by rw [← hp]; rfl, by rw [← hp]; rfl, by rw [← hp]; rfl, rfl, rfl⟩ ?_
    refine sem_step (dlvG G x N a.a) [tokAt y 0, .int .i64 a.a] ((Env.ofL (q.cells ++ [.bool (R.dlvOk a.a)])).ans (encG (rdlvG (dlvG G x N a.a) y R a.a))) rfl rfl ⟨y, R, a.a, rfl, hr1, hal, hcl, by rw [← hq]; rfl, by rw [← hq]; rfl, by rw [← hq]; rfl, by rw [← hq]; rfl, rfl, rfl⟩ ?_
    refine sem_split (fun _ => ?_) (fun h => absurd (show (dlvOk N a.a == R.dlvOk a.a) = false from h) (by rw [hok]; simp))
    refine sem_step (rdlvG (dlvG G x N a.a) y R a.a) [.agg p.cells.toArray, .agg q.cells.toArray] ((Env.ofL [.bool (eqL p.data q.data)]).ans (encG (rdlvG (dlvG G x N a.a) y R a.a))) rfl
      (by show [Value.agg #[.int .i64 p.f, .int .i64 p.t, oneOf p.v], Value.agg #[.int .i64 q.f, .int .i64 q.t, oneOf q.v, .bool q.w], _] = _; rw [oneOf_eq op, oneOf_eq oq]; rfl) ⟨p, q, rfl, dst_sl hd2 (by simp), dst_sl hqd.1 (by simp), hll, rfl, rfl⟩ ?_
    refine fin _ _ _ _ ?_ (by rw [hG]; rfl)
    show eqL p.data q.data = true
    rw [hqd.2]
    exact eqL_self _
  have hw : (a.what == 2) = false := hw
  rw [if_neg (by simpa using hw)] at hG
  refine sem_split (fun hw => ?_) (fun hw => ?_)
  · have hw : (a.what == 3) = true := hw
    rw [if_pos (by simpa using hw)] at hG
    have hr1 := h.ref.net h.net h.ne (Step.dbl h.net a.a)
    have hok : dblOk N a.a = R.dblOk a.a := by rw [dblOk_data]; exact h.alike.dblOk hk
    refine sem_step G [tokAt x 0, .int .i64 a.a] ((Env.ofL [.bool (dblOk N a.a)]).ans (encG (dblG G x N a.a))) rfl rfl ⟨x, N, a.a, rfl, h.net, rfl, rfl⟩ ?_
    refine sem_step (dblG G x N a.a) [tokAt y 0, .int .i64 a.a] ((Env.ofL [.bool (R.dblOk a.a)]).ans (encG (rdblG (dblG G x N a.a) y R a.a))) rfl rfl ⟨y, R, a.a, rfl, hr1, hal, rfl, rfl⟩ ?_
    refine fin _ _ _ _ ?_ (by rw [hG]; rfl)
    show (dblOk N a.a == R.dblOk a.a) = true
    rw [hok]
    simp
  have hw : (a.what == 3) = false := hw
  rw [if_neg (by simpa using hw)] at hG
  refine sem_split (fun hw => ?_) (fun hw => ?_)
  · have hw : (a.what == 4) = true := hw
    rw [if_pos (by simpa using hw)] at hG
    have hr1 := h.ref.net h.net h.ne (Step.los h.net a.a)
    have hok : lookB N a.a = R.lookB a.a := by rw [lookB_data]; exact h.alike.there hk
    refine sem_step G [tokAt x 0, .int .i64 a.a] ((Env.ofL [.bool (lookB N a.a)]).ans (encG (losG G x N a.a))) rfl rfl ⟨x, N, a.a, rfl, h.net, rfl, rfl⟩ ?_
    refine sem_step (losG G x N a.a) [tokAt y 0, .int .i64 a.a] ((Env.ofL [.bool (R.lookB a.a)]).ans (encG (rlosG (losG G x N a.a) y R a.a))) rfl rfl ⟨y, R, a.a, rfl, hr1, hal, rfl, rfl⟩ ?_
    refine fin _ _ _ _ ?_ (by rw [hG]; rfl)
    show (lookB N a.a == R.lookB a.a) = true
    rw [hok]
    simp
  have hw : (a.what == 4) = false := hw
  rw [if_neg (by simpa using hw)] at hG
  have hwy : wayB N.nodes a.a a.b = wayB R.nodes a.a a.b := by rw [nodes_data, h.alike.nodes]
  refine sem_split (fun hw => ?_) (fun hw => ?_)
  · have hw : (a.what == 5) = true := hw
    rw [if_pos (by simpa using hw)] at hG
    have hr1 := h.ref.net h.net h.ne (Step.cut h.net a.a a.b true)
    refine sem_step G [tokAt x 0, .int .i64 a.a, .int .i64 a.b, .bool true] ((Env.ofL [.bool (wayB N.nodes a.a a.b)]).ans (encG (cutG G N a.a a.b true))) rfl rfl ⟨x, N, a.a, a.b, true, rfl, h.net, rfl, rfl⟩ ?_
    refine sem_step (cutG G N a.a a.b true) [tokAt y 0, .int .i64 a.a, .int .i64 a.b, .bool true] ((Env.ofL [.bool (wayB R.nodes a.a a.b)]).ans (encG (rcutG (cutG G N a.a a.b true) y R a.a a.b true))) rfl rfl ⟨y, R, a.a, a.b, true, rfl, hr1, hcl, rfl, rfl⟩ ?_
    refine fin _ _ _ _ ?_ (by rw [hG]; rfl)
    show (wayB N.nodes a.a a.b == wayB R.nodes a.a a.b) = true
    rw [hwy]
    simp
  · have hw : (a.what == 5) = false := hw
    rw [if_neg (by simpa using hw)] at hG
    have hr1 := h.ref.net h.net h.ne (Step.cut h.net a.a a.b false)
    refine sem_step G [tokAt x 0, .int .i64 a.a, .int .i64 a.b, .bool false] ((Env.ofL [.bool (wayB N.nodes a.a a.b)]).ans (encG (cutG G N a.a a.b false))) rfl rfl ⟨x, N, a.a, a.b, false, rfl, h.net, rfl, rfl⟩ ?_
    refine sem_step (cutG G N a.a a.b false) [tokAt y 0, .int .i64 a.a, .int .i64 a.b, .bool false] ((Env.ofL [.bool (wayB R.nodes a.a a.b)]).ans (encG (rcutG (cutG G N a.a a.b false) y R a.a a.b false))) rfl rfl ⟨y, R, a.a, a.b, false, rfl, hr1, hcl, rfl, rfl⟩ ?_
    refine fin _ _ _ _ ?_ (by rw [hG]; rfl)
    show (wayB N.nodes a.a a.b == wayB R.nodes a.a a.b) = true
    rw [hwy]
    simp
end Go.Proofs.Yteklnfajpignoaa
