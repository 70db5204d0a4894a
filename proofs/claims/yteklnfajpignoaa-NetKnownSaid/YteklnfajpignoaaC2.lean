/- What is proved: the contract of works, and that taken letters stay. No condition. -/
import Derived.Test.YteklnfajpignoaaC1
namespace Go.Proofs.Yteklnfajpignoaa
open Sx
set_option maxRecDepth 100000

theorem IsNet.ne1 {G : List Ob} {x : Nat} {N : NetM} (h : IsNet G x N) {d n : Nat} {xs : List Value} (hd : G[d]? = some (.row 1 n xs)) : N.rv ≠ tok d := fun e => by
  rcases h.row with ⟨h1, _⟩ | ⟨d', h1, h2⟩
  · rw [e] at h1; cases h1
  · rw [e] at h1
    have h3 : d = d' := by simpa [tok] using h1
    subst h3
    rw [hd] at h2
    cases h2
theorem Step.stay {G G' : List Ob} {x : Nat} {N N' : NetM} (hs : Step x N G N' G') (hN : IsNet G x N) {d n : Nat} {xs : List Value} (hd : G[d]? = some (.row 1 n xs)) : G'[d]? = some (.row 1 n xs) :=
  hs.fr.2 d _ hd (fun e => by subst e; rw [hN.ob] at hd; cases hd) (fun e => by subst e; rw [hN.map] at hd; cases hd) (hN.ne1 hd)
theorem Step.dst {G G' : List Ob} {x : Nat} {N N' : NetM} (hs : Step x N G N' G') (hN : IsNet G x N) {v : Value} {n : Nat} {xs : List Value} (hd : Dst G v 1 n xs) : Dst G' v 1 n xs := by
  rcases hd with h | ⟨d, rfl, h⟩
  · exact .inl h
  · exact .inr ⟨d, rfl, hs.stay hN h⟩
theorem look_dst {G : List Ob} {x : Nat} {N : NetM} (h : IsNet G x N) (k : Int) : Dst (lookG G N k) (lookL G N k).v 1 (lookL G N k).bs.length ((lookL G N k).bs.map (Value.int .u8)) := by
  unfold lookG lookL
  by_cases hb : lookB N k = true
  · rw [if_pos hb, if_pos hb]
    obtain ⟨h1, _, _⟩ := lookB_spec hb
    exact clone_row (h.body _ (List.mem_of_getElem? h1)).1.sl
  · rw [if_neg hb, if_neg hb]
    exact .inl ⟨rfl, rfl, rfl⟩
theorem dlv_dst {G : List Ob} {x : Nat} {N : NetM} (h : IsNet G x N) (k : Int) : Dst (dlvG G x N k) (dlvL G N k).v 1 (dlvL G N k).bs.length ((dlvL G N k).bs.map (Value.int .u8)) := by
  have h0 := Step.look h k
  have hd := look_dst h k
  unfold dlvG dlvL
  by_cases hb : dlvOk N k = true
  · rw [if_pos hb, if_pos hb]
    have h1 : Step x N (lookG G N k) (dlvN1 N) (dlvG1 G x N k) := Step.put h0.is_ rfl rfl rfl rfl
    exact (Step.go h1.is_ k).dst h1.is_ (h1.dst h0.is_ hd)
  · rw [if_neg hb, if_neg hb]
    exact .inl ⟨rfl, rfl, rfl⟩
/-- A literal of one byte. -/
def litG (G : List Ob) (c : Int) : List Ob := G ++ [.row 1 1 [.int .u8 c]]
theorem lit_get (G : List Ob) (c : Int) : (litG G c)[G.length]? = some (.row 1 1 [.int .u8 c]) := by unfold litG; rw [List.getElem?_append_right (Nat.le_refl _), Nat.sub_self]; rfl
theorem lit_sl (G : List Ob) (c : Int) : Sl (litG G c) (tok G.length) 1 [c].length ([c].map (Value.int .u8)) := dst_sl (.inr ⟨_, rfl, lit_get G c⟩) rfl
section
variable (G : List Ob)
def wX : Nat := G.length + 1
def wG1 : List Ob := newG G 3
def wN1 : NetM := newNet 3 G.length
def wLa : Lt := ⟨1, 2, tok (wG1 G).length, [97]⟩
def wG2 : List Ob := sendG (litG (wG1 G) 97) (wX G) (wN1 G) (wLa G)
def wN2 : NetM := sendN (litG (wG1 G) 97) (wN1 G) (wLa G)
def wLb : Lt := ⟨1, 3, tok (wG2 G).length, [98]⟩
def wG3 : List Ob := sendG (litG (wG2 G) 98) (wX G) (wN2 G) (wLb G)
def wN3 : NetM := sendN (litG (wG2 G) 98) (wN2 G) (wLb G)
def wG4 : List Ob := dblG (wG3 G) (wX G) (wN3 G) 0
def wN4 : NetM := dblN (wG3 G) (wN3 G) 0
noncomputable def wG5 : List Ob := dlvG (wG4 G) (wX G) (wN4 G) 2
noncomputable def wN5 : NetM := dlvN (wG4 G) (wX G) (wN4 G) 2
noncomputable def wG6 : List Ob := losG (wG5 G) (wX G) (wN5 G) 0
noncomputable def wN6 : NetM := losN (wG5 G) (wX G) (wN5 G) 0
noncomputable def wG7 : List Ob := cutG (wG6 G) (wN6 G) 3 1 true
noncomputable def wN7 : NetM := cutN (wN6 G) 3 1 true
noncomputable def wG8 : List Ob := dlvG (wG7 G) (wX G) (wN7 G) 0
noncomputable def wN8 : NetM := dlvN (wG7 G) (wX G) (wN7 G) 0
noncomputable def wG9 : List Ob := cutG (wG8 G) (wN8 G) 1 3 false
noncomputable def wN9 : NetM := cutN (wN8 G) 1 3 false
noncomputable def worksG : List Ob := dlvG (wG9 G) (wX G) (wN9 G) 0
noncomputable def wN10 : NetM := dlvN (wG9 G) (wX G) (wN9 G) 0
def wD1 : ND := ND.new 3
def wD2 : ND := wD1.send ⟨1, 2, [97]⟩
def wD3 : ND := wD2.send ⟨1, 3, [98]⟩
def wD4 : ND := wD3.dbl 0
def wD5 : ND := wD4.dlv 2
def wD6 : ND := wD5.los 0
def wD7 : ND := wD6.cut 3 1 true
def wD8 : ND := wD7.dlv 0
def wD9 : ND := wD8.cut 1 3 false
def wD10 : ND := wD9.dlv 0
theorem d1 : (wN1 G).data = wD1 := rfl
theorem d2 : (wN2 G).data = wD2 := by unfold wN2; rw [send_data, d1]; rfl
theorem d3 : (wN3 G).data = wD3 := by unfold wN3; rw [send_data, d2]; rfl
theorem d4 : (wN4 G).data = wD4 := by unfold wN4; rw [dbl_data, d3]; rfl
theorem d5 : (wN5 G).data = wD5 := by unfold wN5; rw [dlv_data, d4]; rfl
theorem d6 : (wN6 G).data = wD6 := by unfold wN6; rw [los_data, d5]; rfl
theorem d7 : (wN7 G).data = wD7 := by unfold wN7; rw [cut_data, d6]; rfl
theorem d8 : (wN8 G).data = wD8 := by unfold wN8; rw [dlv_data, d7]; rfl
theorem d9 : (wN9 G).data = wD9 := by unfold wN9; rw [cut_data, d8]; rfl
theorem d10 : (wN10 G).data = wD10 := by unfold wN10; rw [dlv_data, d9]; rfl
theorem i1 : IsNet (wG1 G) (wX G) (wN1 G) := new_is G (by decide)
theorem i1' : IsNet (litG (wG1 G) 97) (wX G) (wN1 G) := (i1 G).append
theorem i2 : IsNet (wG2 G) (wX G) (wN2 G) := (Step.send (i1' G) (lit_sl _ _)).is_
theorem i2' : IsNet (litG (wG2 G) 98) (wX G) (wN2 G) := (i2 G).append
theorem i3 : IsNet (wG3 G) (wX G) (wN3 G) := (Step.send (i2' G) (lit_sl _ _)).is_
theorem i4 : IsNet (wG4 G) (wX G) (wN4 G) := (Step.dbl (i3 G) 0).is_
theorem s5 : Step (wX G) (wN4 G) (wG4 G) (wN5 G) (wG5 G) := Step.dlv (i4 G) 2
theorem s6 : Step (wX G) (wN5 G) (wG5 G) (wN6 G) (wG6 G) := Step.los (s5 G).is_ 0
theorem s7 : Step (wX G) (wN6 G) (wG6 G) (wN7 G) (wG7 G) := Step.cut (s6 G).is_ 3 1 true
theorem s8 : Step (wX G) (wN7 G) (wG7 G) (wN8 G) (wG8 G) := Step.dlv (s7 G).is_ 0
theorem s9 : Step (wX G) (wN8 G) (wG8 G) (wN9 G) (wG9 G) := Step.cut (s8 G).is_ 1 3 false
theorem s10 : Step (wX G) (wN9 G) (wG9 G) (wN10 G) (worksG G) := Step.dlv (s9 G).is_ 0
theorem s6_10 : Step (wX G) (wN5 G) (wG5 G) (wN10 G) (worksG G) := (s6 G).trans ((s7 G).trans ((s8 G).trans ((s9 G).trans (s10 G))))
end
end Go.Proofs.Yteklnfajpignoaa
