/- What is proved: what came in is what waits, came out or was lost; the counts tell it. No condition. -/
import Derived.Test.YteklnfajpignoaaK4
namespace Go.Proofs.Yteklnfajpignoaa
open Sx hiding Sl

structure Sum (D : ND) (I O X : List LD) (j : Nat) : Prop where
  cnt : ∀ z, cntL I z = cntL D.row z + cntL O z + cntL X z
  len : I.length = D.row.length + O.length + X.length
  s0 : 0 ≤ D.s
  d0 : 0 ≤ D.d
  sd : D.s + D.d = (I.length : Nat)
  v : D.v = (O.length : Nat)
  l : D.l = (X.length : Nat)
  le : I.length ≤ j
theorem cntL_append (a b : List LD) (z : LD) : cntL (a ++ b) z = cntL a z + cntL b z := List.countP_append
theorem cntL_one (a z : LD) : cntL [a] z = if eqL a z then 1 else 0 := by
  unfold cntL
  rw [List.countP_cons]
  simp
theorem cntL_erase (r : List LD) (k : Nat) (a z : LD) (h : r[k]? = some a) : cntL r z = cntL (r.eraseIdx k) z + cntL [a] z := by
  induction r generalizing k with
  | nil => simp at h
  | cons b r ih =>
    cases k with
    | zero =>
      simp at h
      subst h
      show cntL ([b] ++ r) z = _
      rw [cntL_append]
      show _ = cntL r z + _
      omega
    | succ k =>
      show cntL ([b] ++ r) z = cntL ([b] ++ r.eraseIdx k) z + _
      rw [cntL_append, cntL_append, ih k (by simpa using h)]
      omega
theorem eqL_refl (a : LD) : eqL a a = true := by simp [eqL]
theorem inc_eq {c : Int} (h0 : 0 ≤ c) (h1 : c ≤ 1000000) : inc c = c + 1 := wrap_up' h0 h1
theorem Sum.new (n : Int) : Sum (ND.new n) [] [] [] 0 := ⟨fun _ => rfl, rfl, Int.le_refl _, Int.le_refl _, rfl, rfl, rfl, Nat.le_refl _⟩
theorem Sum.mono {D : ND} {I O X : List LD} {j : Nat} (h : Sum D I O X j) : Sum D I O X (j + 1) := ⟨h.cnt, h.len, h.s0, h.d0, h.sd, h.v, h.l, Nat.le_succ_of_le h.le⟩
theorem Sum.same {D D' : ND} {I O X : List LD} {j : Nat} (h : Sum D I O X j) (h1 : D'.row = D.row) (h2 : D'.s = D.s) (h3 : D'.d = D.d) (h4 : D'.v = D.v) (h5 : D'.l = D.l) : Sum D' I O X (j + 1) :=
  ⟨fun z => by rw [h1]; exact h.cnt z, by rw [h1]; exact h.len, by rw [h2]; exact h.s0, by rw [h3]; exact h.d0, by rw [h2, h3]; exact h.sd, by rw [h4]; exact h.v, by rw [h5]; exact h.l, Nat.le_succ_of_le h.le⟩
/-- One more came in. -/
theorem Sum.more {D D' : ND} {I O X : List LD} {j : Nat} {a : LD} (h : Sum D I O X j) (hr : D'.row = D.row ++ [a]) (hs : D'.s + D'.d = D.s + D.d + 1) (hs0 : 0 ≤ D'.s) (hd0 : 0 ≤ D'.d) (hv : D'.v = D.v) (hl : D'.l = D.l) : Sum D' (I ++ [a]) O X (j + 1) := by
  refine ⟨fun z => ?_, ?_, hs0, hd0, ?_, by rw [hv]; exact h.v, by rw [hl]; exact h.l, ?_⟩
  · rw [hr, cntL_append, cntL_append, h.cnt z]; omega
  · rw [hr, List.length_append, List.length_append, h.len]; simp only [List.length_cons, List.length_nil]; omega
  · rw [hs, h.sd, List.length_append]; rfl
  · have := h.le; rw [List.length_append]; simp only [List.length_cons, List.length_nil]; omega
theorem there_get {D : ND} {k : Int} (h : D.there k = true) : D.row[k.toNat]? = some (D.look k) ∧ k.toNat < D.row.length := by
  have h1 := of_decide_eq_true h
  have h2 : k.toNat < D.row.length := by omega
  refine ⟨?_, h2⟩
  unfold ND.look
  rw [if_pos h, List.getD_eq_getElem?_getD, List.getElem?_eq_getElem h2]
  rfl
theorem Sum.send {D : ND} {I O X : List LD} {j : Nat} (h : Sum D I O X j) (hj : j ≤ 1000) (a : LD) : Sum (D.send a) (if D.sendOk a then I ++ [a] else I) O X (j + 1) := by
  have h1 := h.sd; have h2 := h.le; have h3 := h.s0; have h4 := h.d0
  unfold ND.send
  split
  · have e := inc_eq h.s0 (by omega)
    exact h.more rfl (by show inc D.s + D.d = _; rw [e]; omega) (by show 0 ≤ inc D.s; rw [e]; omega) h4 rfl rfl
  · exact h.mono
theorem Sum.dbl {D : ND} {I O X : List LD} {j : Nat} (h : Sum D I O X j) (hj : j ≤ 1000) (k : Int) : Sum (D.dbl k) (if D.dblOk k then I ++ [D.look k] else I) O X (j + 1) := by
  have h1 := h.sd; have h2 := h.le; have h3 := h.s0; have h4 := h.d0
  unfold ND.dbl
  split
  · have e := inc_eq h.d0 (by omega)
    exact h.more rfl (by show D.s + inc D.d = _; rw [e]; omega) h3 (by show 0 ≤ inc D.d; rw [e]; omega) rfl rfl
  · exact h.mono
theorem Sum.dlv {D : ND} {I O X : List LD} {j : Nat} (h : Sum D I O X j) (hj : j ≤ 1000) (k : Int) : Sum (D.dlv k) I (if D.dlvOk k then O ++ [D.look k] else O) X (j + 1) := by
  have h1 := h.sd; have h2 := h.le; have hlen := h.len
  unfold ND.dlv
  split
  · rename_i hok
    obtain ⟨g1, g2⟩ := there_get (D := D) (k := k) (by unfold ND.dlvOk at hok; rw [Bool.and_eq_true] at hok; exact hok.1)
    have e := inc_eq (c := D.v) (by rw [h.v]; omega) (by rw [h.v]; omega)
    refine ⟨fun z => ?_, ?_, h.s0, h.d0, h1, ?_, h.l, Nat.le_succ_of_le h2⟩
    · rw [h.cnt z, cntL_append, cntL_erase D.row k.toNat _ z g1]; show _ = cntL (D.row.eraseIdx k.toNat) z + _ + _; omega
    · rw [hlen, List.length_append]; show _ = (D.row.eraseIdx k.toNat).length + _ + _; rw [List.length_eraseIdx, if_pos g2]; simp only [List.length_cons, List.length_nil]; omega
    · show inc D.v = _; rw [e, h.v, List.length_append]; rfl
  · exact h.mono
theorem Sum.los {D : ND} {I O X : List LD} {j : Nat} (h : Sum D I O X j) (hj : j ≤ 1000) (k : Int) : ∃ X', Sum (D.los k) I O X' (j + 1) := by
  have h1 := h.sd; have h2 := h.le; have hlen := h.len
  unfold ND.los
  split
  · rename_i hok
    obtain ⟨g1, g2⟩ := there_get hok
    have e := inc_eq (c := D.l) (by rw [h.l]; omega) (by rw [h.l]; omega)
    refine ⟨X ++ [D.look k], fun z => ?_, ?_, h.s0, h.d0, h1, h.v, ?_, Nat.le_succ_of_le h2⟩
    · rw [h.cnt z, cntL_append, cntL_erase D.row k.toNat _ z g1]; show _ = cntL (D.row.eraseIdx k.toNat) z + _ + _; omega
    · rw [hlen, List.length_append]; show _ = (D.row.eraseIdx k.toNat).length + _ + _; rw [List.length_eraseIdx, if_pos g2]; simp only [List.length_cons, List.length_nil]; omega
    · show inc D.l = _; rw [e, h.l, List.length_append]; rfl
  · exact ⟨X, h.mono⟩
theorem Sum.cut {D : ND} {I O X : List LD} {j : Nat} (h : Sum D I O X j) (a b : Int) (c : Bool) : Sum (D.cut a b c) I O X (j + 1) := by
  unfold ND.cut
  split
  · exact h.same rfl rfl rfl rfl rfl
  · exact h.mono
/-- What an act does to the sum. -/
theorem sum_did {G : List Ob} {n : Nat} {N : NetM} {x : AD} {I O X : List LD} {j : Nat} (h : Sum N.data I O X j) (hj : j ≤ 1000) :
    ∃ X', Sum (didO G n N x).N.data (if (didO G n N x).ib then I ++ [(didO G n N x).i.data] else I) (if (didO G n N x).ob then O ++ [(didO G n N x).o.data] else O) X' (j + 1) := by
  unfold didO
  split
  · refine ⟨X, ?_⟩
    show Sum (sendN G N x.lt).data (if sendOk N x.lt then _ else _) O X (j + 1)
    rw [send_data, sendOk_data]
    exact h.send hj _
  split
  · refine ⟨X, ?_⟩
    show Sum (dlvN G n N x.a).data I (if dlvOk N x.a then O ++ [(dlvL G N x.a).data] else O) X (j + 1)
    rw [dlv_data, dlvL_data, dlvOk_data]
    have := h.dlv hj x.a
    by_cases hk : N.data.dlvOk x.a = true
    · rw [if_pos hk] at this ⊢; rw [if_pos hk]; exact this
    · rw [if_neg hk] at this ⊢; exact this
  split
  · refine ⟨X, ?_⟩
    show Sum (dblN (lookG G N x.a) N x.a).data (if dblOk N x.a then I ++ [(lookL G N x.a).data] else I) O X (j + 1)
    rw [dbl_data, dblOk_data, look_data]
    exact h.dbl hj _
  split
  · show ∃ X', Sum (losN G n N x.a).data I O X' (j + 1)
    rw [los_data]
    exact h.los hj _
  split
  · refine ⟨X, ?_⟩
    show Sum (cutN N x.a x.b true).data I O X (j + 1)
    rw [cut_data]
    exact h.cut _ _ _
  split
  · refine ⟨X, ?_⟩
    show Sum (cutN N x.a x.b false).data I O X (j + 1)
    rw [cut_data]
    exact h.cut _ _ _
  exact ⟨X, h.mono⟩
theorem Sum.out_le {D : ND} {I O X : List LD} {j : Nat} (h : Sum D I O X j) (z : LD) : cntL O z ≤ cntL I z := by have := h.cnt z; omega
theorem Sum.row_in {D : ND} {I O X : List LD} {j : Nat} (h : Sum D I O X j) {a : LD} (ha : a ∈ D.row) : 0 < cntL I a := by
  have h1 : 0 < cntL D.row a := List.countP_pos_iff.2 ⟨a, ha, eqL_refl a⟩
  have := h.cnt a
  omega
end Go.Proofs.Yteklnfajpignoaa
