/- What is proved: a net and two rows of letters beside it. No condition. -/
import Derived.Test.YteklnfajpignoaaN1
namespace Go.Proofs.Yteklnfajpignoaa
open Sx hiding Sl
set_option maxRecDepth 100000

theorem tok_inj {a b : Nat} (h : tok a = tok b) : a = b := by simpa [tok] using h
def LOk (G : List Ob) (l : Lt) : Prop := LDst G l ∧ l.bs.length ≤ 1000000
structure Two (G : List Ob) (n : Nat) (N : NetM) (vi : Value) (ri : List Lt) (vo : Value) (ro : List Lt) : Prop where
  is_ : IsNet G n N
  di : Dst G vi 3 ri.length (rowC ri)
  do_ : Dst G vo 3 ro.length (rowC ro)
  li : ∀ l ∈ ri, LOk G l
  lo : ∀ l ∈ ro, LOk G l
  ni : ∀ d, vi = tok d → N.rv ≠ tok d
  no : ∀ d, vo = tok d → N.rv ≠ tok d
  ne : ∀ d, vi = tok d → vo ≠ tok d
theorem Two.swap {G : List Ob} {n : Nat} {N : NetM} {vi vo : Value} {ri ro : List Lt} (h : Two G n N vi ri vo ro) : Two G n N vo ro vi ri :=
  ⟨h.is_, h.do_, h.di, h.lo, h.li, h.no, h.ni, fun d e e' => h.ne d e' e⟩
theorem dst_lt {G : List Ob} {v : Value} {s len : Nat} {xs : List Value} (h : Dst G v s len xs) {d : Nat} (e : v = tok d) : d < G.length ∧ G[d]? = some (.row s len xs) := by
  rcases h with ⟨e', _⟩ | ⟨d', e', h⟩
  · rw [e] at e'; cases e'
  · rw [e] at e'
    have := tok_inj e'
    subst this
    exact ⟨(List.getElem?_eq_some_iff.1 h).1, h⟩
theorem Step.dst3 {G G' : List Ob} {n : Nat} {N N' : NetM} (hs : Step n N G N' G') (hN : IsNet G n N) {v : Value} {len : Nat} {xs : List Value} (hd : Dst G v 3 len xs) (hv : ∀ d, v = tok d → N.rv ≠ tok d) : Dst G' v 3 len xs := by
  rcases hd with h | ⟨d, rfl, h⟩
  · exact .inl h
  · exact .inr ⟨d, rfl, hs.fr.2 d _ h (fun e => by subst e; rw [hN.ob] at h; cases h) (fun e => by subst e; rw [hN.map] at h; cases h) (hv d rfl)⟩
theorem Step.rvne {G G' : List Ob} {n : Nat} {N N' : NetM} (hs : Step n N G N' G') {v : Value} {s len : Nat} {xs : List Value} (hd : Dst G v s len xs) (hv : ∀ d, v = tok d → N.rv ≠ tok d) : ∀ d, v = tok d → N'.rv ≠ tok d := fun d e e' => by
  rcases hs.rv with h | ⟨k, h, hk⟩
  · exact hv d e (h ▸ e')
  · rw [h] at e'
    have := tok_inj e'
    have := (dst_lt hd e).1
    omega
theorem Two.step {G G' : List Ob} {n : Nat} {N N' : NetM} {vi vo : Value} {ri ro : List Lt} (h : Two G n N vi ri vo ro) (hs : Step n N G N' G') : Two G' n N' vi ri vo ro :=
  ⟨hs.is_, hs.dst3 h.is_ h.di h.ni, hs.dst3 h.is_ h.do_ h.no, fun l hl => ⟨hs.dst h.is_ (h.li l hl).1, (h.li l hl).2⟩, fun l hl => ⟨hs.dst h.is_ (h.lo l hl).1, (h.lo l hl).2⟩, hs.rvne h.di h.ni, hs.rvne h.do_ h.no, h.ne⟩
/-- A letter is put behind a row. -/
def litL (G : List Ob) (l : Lt) : List Ob := G ++ [.row 3 1 l.cells]
def pushG (G : List Ob) (v : Value) (r : List Lt) (l : Lt) : List Ob := killV (litL G l) v ++ [.row 3 (r.length + 1) (rowC r ++ l.cells)]
theorem push_but {G : List Ob} {v : Value} {r : List Lt} {l : Lt} {s len : Nat} {xs : List Value} (hd : Dst G v s len xs) : ∀ (k : Nat) o, G[k]? = some o → v ≠ tok k → (pushG G v r l)[k]? = some o := fun k o ho hne => by
  have hk := (List.getElem?_eq_some_iff.1 ho).1
  have h1 : (litL G l)[k]? = some o := by unfold litL; rw [List.getElem?_append_left hk]; exact ho
  have hl : (litL G l).length = G.length + 1 := by simp [litL]
  unfold pushG
  rw [List.getElem?_append_left (by rw [killV_length]; omega)]
  rcases hd with ⟨rfl, _⟩ | ⟨d, rfl, _⟩
  · exact h1
  · rw [killV_tok, List.getElem?_set_ne (fun e => hne (by rw [e]))]
    exact h1
def KeepsRo (G G' : List Ob) : Prop := ∀ (k s m : Nat) c, G[k]? = some (.ro s m c) → G'[k]? = some (.ro s m c)
theorem KeepsRo.trans {A B C : List Ob} (h : KeepsRo A B) (h' : KeepsRo B C) : KeepsRo A C := fun k s m c hk => h' k s m c (h k s m c hk)
theorem Step.keepsRo {G G' : List Ob} {n : Nat} {N N' : NetM} (hs : Step n N G N' G') (hN : IsNet G n N) : KeepsRo G G' := fun _ _ _ _ h => hs.ro hN h
theorem push_ro {G : List Ob} {v : Value} {r : List Lt} {l : Lt} {s len : Nat} {xs : List Value} (hd : Dst G v s len xs) : KeepsRo G (pushG G v r l) := fun k s' m c hk => push_but hd k _ hk fun e => by
  have := (dst_lt hd e).2
  rw [hk] at this
  cases this
theorem Two.push {G : List Ob} {n : Nat} {N : NetM} {vi vo : Value} {ri ro : List Lt} (h : Two G n N vi ri vo ro) {l : Lt} (hl : LOk G l) : Two (pushG G vi ri l) n N (tok (G.length + 1)) (ri ++ [l]) vo ro := by
  have hb := push_but (r := ri) (l := l) h.di
  have hll : (killV (litL G l) vi).length = G.length + 1 := by rw [killV_length]; simp [litL]
  have not1 : ∀ {k : Nat} {o : Ob}, G[k]? = some o → (∀ s m c, o ≠ .row s m c) → vi ≠ tok k := fun {k o} hk ho e => by
    have := (dst_lt h.di e).2
    rw [hk] at this
    cases this
    exact ho _ _ _ rfl
  have one : ∀ x, LOk G x → LOk (pushG G vi ri l) x := fun x hx => by
    refine ⟨?_, hx.2⟩
    rcases hx.1 with e | ⟨d, e, hd⟩
    · exact .inl e
    · refine .inr ⟨d, e, hb d _ hd fun e' => ?_⟩
      have := (dst_lt h.di e').2
      rw [hd] at this
      cases this
  refine ⟨⟨hb _ _ h.is_.ob (not1 h.is_.ob fun _ _ _ e => by cases e), ?_, fun x hx => ⟨(h.is_.body x hx).1.keep fun k s m c hk => hb k _ hk (not1 hk fun _ _ _ e => by cases e), (h.is_.body x hx).2⟩, hb _ _ h.is_.map (not1 h.is_.map fun _ _ _ e => by cases e), h.is_.keys, h.is_.len⟩, ?_, ?_, ?_, fun x hx => one x (h.lo x hx), ?_, h.no, ?_⟩
  · rcases h.is_.row with e | ⟨d, e, hd⟩
    · exact .inl e
    · exact .inr ⟨d, e, hb d _ hd fun e' => h.ni d e' e⟩
  · refine .inr ⟨_, rfl, ?_⟩
    unfold pushG
    rw [List.getElem?_append_right (by rw [hll]; exact Nat.le_refl _), hll, Nat.sub_self, List.length_append, rowC_snoc]
    rfl
  · rcases h.do_ with e | ⟨d, e, hd⟩
    · exact .inl e
    · exact .inr ⟨d, e, hb d _ hd fun e' => h.ne d e' e⟩
  · intro x hx
    rcases List.mem_append.1 hx with hx | hx
    · exact one x (h.li x hx)
    · rw [List.mem_singleton] at hx
      subst hx
      exact one _ hl
  · intro d e e'
    have hd := tok_inj e
    rcases h.is_.row with ⟨e2, _⟩ | ⟨d2, e2, h2⟩
    · rw [e'] at e2; cases e2
    · rw [e'] at e2
      have := tok_inj e2
      have := (List.getElem?_eq_some_iff.1 h2).1
      omega
  · intro d e e'
    have hd := tok_inj e
    have := (dst_lt h.do_ e').1
    omega
theorem Two.rows {G : List Ob} {n : Nat} {N : NetM} {vi vo : Value} {ri ro : List Lt} (h : Two G n N vi ri vo ro) : Sx.Sl G vi 3 ri.length (rowC ri) := dst_sl h.di (rowC_length _)
theorem LOk.sl {G : List Ob} {l : Lt} (h : LOk G l) : Sx.Sl G l.v 1 l.bs.length (l.bs.map (Value.int .u8)) := dst_sl h.1 (by simp)
theorem Two.ls {G : List Ob} {n : Nat} {N : NetM} {vi vo : Value} {ri ro : List Lt} (h : Two G n N vi ri vo ro) : LsOk G ri := fun x hx => ⟨(h.li x hx).sl, (h.li x hx).2⟩
theorem ls_one {G : List Ob} {l : Lt} (h : LOk G l) : LsOk G [l] := fun x hx => by
  rw [List.mem_singleton] at hx
  subst hx
  exact ⟨h.sl, h.2⟩
/-- The steps of putting. -/
theorem lit_bs3 {G : List Ob} {l : Lt} (h1 : l.v.oneCell' = true) : bsR 3 1 G [.agg l.cells.toArray] ((Env.ofL [tok G.length]).ans (encG (litL G l))) :=
  ⟨false, l.cells, rfl, rfl, fun v hv => by
    have : v = .agg l.cells.toArray := by simpa using hv
    subst this
    refine ⟨rfl, fun d hd => ?_, fun cs e => by cases e⟩
    have hd : d ∈ l.cells := by simpa [Value.cells] using hd
    simp only [Lt.cells, List.mem_cons, List.not_mem_nil, or_false] at hd
    rcases hd with rfl | rfl | rfl
    · rfl
    · rfl
    · exact h1, rfl, rfl⟩
theorem lit_app3 {G : List Ob} {v : Value} {r : List Lt} {l : Lt} (hd : Dst G v 3 r.length (rowC r)) (hr : r.length ≤ 1000000) :
    appR 3 40 (litL G l) [v, tok G.length] ((Env.ofL [tok (G.length + 1)]).ans (encG (pushG G v r l))) := by
  refine ⟨v, tok G.length, r.length, 1, rowC r, l.cells, rfl, ?_, by omega, by omega, .inr ⟨Nat.one_pos, Dst.append hd, ?_, false, rfl⟩⟩
  · refine dst_sl (.inr ⟨_, rfl, ?_⟩) rfl
    unfold litL
    rw [List.getElem?_append_right (Nat.le_refl _), Nat.sub_self]
    rfl
  · show tok (G.length + 1) = tok (litL G l).length
    rw [show (litL G l).length = G.length + 1 by simp [litL]]
theorem lookL_len {G : List Ob} {n : Nat} {N : NetM} (h : IsNet G n N) (k : Int) : (lookL G N k).bs.length ≤ 1000000 := by
  unfold lookL
  split
  · rename_i hb
    have := (h.body _ (List.mem_of_getElem? (lookB_spec hb).1)).2
    show (lookO N k).bs.length ≤ _
    omega
  · exact Nat.zero_le _
theorem did_lens {G : List Ob} {n : Nat} {N : NetM} {x : AD} (h : IsNet G n N) (hx : x.bs.length ≤ 1000000) : (didO G n N x).i.bs.length ≤ 1000000 ∧ (didO G n N x).o.bs.length ≤ 1000000 := by
  unfold didO
  split
  · exact ⟨hx, Nat.zero_le _⟩
  split
  · refine ⟨Nat.zero_le _, ?_⟩
    show (dlvL G N x.a).bs.length ≤ _
    unfold dlvL
    split
    · exact lookL_len h _
    · exact Nat.zero_le _
  split
  · exact ⟨lookL_len h _, Nat.zero_le _⟩
  repeat' split
  all_goals exact ⟨Nat.zero_le _, Nat.zero_le _⟩
theorem did_i {G : List Ob} {n : Nat} {N : NetM} {x : AD} (h : IsNet G n N) (hx : x.bs.length ≤ 1000000) : LOk (didO G n N x).G (didO G n N x).i := ⟨did_in h, (did_lens h hx).1⟩
theorem did_o {G : List Ob} {n : Nat} {N : NetM} {x : AD} (h : IsNet G n N) (hx : x.bs.length ≤ 1000000) : LOk (didO G n N x).G (didO G n N x).o := ⟨did_out h, (did_lens h hx).2⟩
theorem push_one {G : List Ob} {v : Value} {r : List Lt} {l x : Lt} {len : Nat} {xs : List Value} (hd : Dst G v 3 len xs) (hx : LOk G x) : LOk (pushG G v r l) x := by
  refine ⟨?_, hx.2⟩
  rcases hx.1 with e | ⟨d, e, h⟩
  · exact .inl e
  · refine .inr ⟨d, e, push_but hd d _ h fun e' => ?_⟩
    have := (dst_lt hd e').2
    rw [h] at this
    cases this
/-- works keeps what is only read. -/
theorem works_ro (G : List Ob) : KeepsRo G (worksG G) := by
  have k1 : KeepsRo G (wG1 G) := fun k s m c hk => by
    have := (List.getElem?_eq_some_iff.1 hk).1
    unfold wG1 newG
    rw [if_neg (by decide), List.append_assoc, List.getElem?_append_left this]
    exact hk
  have lit : ∀ (A : List Ob) (c : Int), KeepsRo A (litG A c) := fun A c k s m e hk => by
    have := (List.getElem?_eq_some_iff.1 hk).1
    unfold litG
    rw [List.getElem?_append_left this]
    exact hk
  have k2 : KeepsRo (litG (wG1 G) 97) (wG2 G) := (Step.send (i1' G) (lit_sl _ _)).keepsRo (i1' G)
  have k3 : KeepsRo (litG (wG2 G) 98) (wG3 G) := (Step.send (i2' G) (lit_sl _ _)).keepsRo (i2' G)
  have k4 : KeepsRo (wG3 G) (wG4 G) := (Step.dbl (i3 G) 0).keepsRo (i3 G)
  exact k1.trans ((lit _ _).trans (k2.trans ((lit _ _).trans (k3.trans (k4.trans (((s5 G).keepsRo (i4 G)).trans ((s6_10 G).keepsRo (s5 G).is_)))))))
end Go.Proofs.Yteklnfajpignoaa
