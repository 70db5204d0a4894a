/- What is proved: plain laws: both disks in one store; what a step of one leaves of the other. No condition but those each law names. -/
import Derived.Test.YtcedgoaanlbldaaD4
namespace Go.Proofs.Ytcedgoaanlbldaa
open Sx hiding Sl
set_option maxRecDepth 100000

theorem tok_inj {n k : Nat} (h : tok n = tok k) : n = k := by
  have h : Value.pointer (some _) = Value.pointer (some _) := h
  simpa using h
structure Two (G : List Ob) (d y : Nat) (M : DiskM) (R : RefM) : Prop where
  dk : IsDisk G d M
  rf : IsRef G y R
/-- No handle of the document's disk is this object. -/
def RefM.ne (R : RefM) (k : Nat) : Prop := ∀ i, i < 512 → (R.sec i).lv ≠ tok k ∧ (R.sec i).ov ≠ tok k
/-- What is there, but for the two disks, stays. -/
def FrB (d y : Nat) (M : DiskM) (G G' : List Ob) : Prop := G.length ≤ G'.length ∧ ∀ (n : Nat) o, G[n]? = some o → n ≠ d → n ≠ M.m1 → n ≠ M.m2 → n ≠ y → G'[n]? = some o
structure TStep (d y : Nat) (M : DiskM) (R : RefM) (G : List Ob) (M' : DiskM) (R' : RefM) (G' : List Ob) : Prop where
  two : Two G' d y M' R'
  fr : FrB d y M G G'
  m1 : M'.m1 = M.m1
  m2 : M'.m2 = M.m2
  ne : ∀ k, k < G.length → R.ne k → R'.ne k
section
variable {d y : Nat} {M M' M'' : DiskM} {R R' R'' : RefM} {G G' G'' : List Ob}
theorem TStep.refl (h : Two G d y M R) : TStep d y M R G M R G := ⟨h, ⟨Nat.le_refl _, fun _ _ h _ _ _ _ => h⟩, rfl, rfl, fun _ _ h => h⟩
theorem TStep.trans (h : TStep d y M R G M' R' G') (h' : TStep d y M' R' G' M'' R'' G'') : TStep d y M R G M'' R'' G'' :=
  ⟨h'.two, ⟨Nat.le_trans h.fr.1 h'.fr.1, fun n o ho a b c e => h'.fr.2 n o (h.fr.2 n o ho a b c e) a (by rw [h.m1]; exact b) (by rw [h.m2]; exact c) e⟩, h'.m1.trans h.m1, h'.m2.trans h.m2, fun k hk hn => h'.ne k (Nat.lt_of_lt_of_le hk h.fr.1) (h.ne k hk hn)⟩
theorem TStep.rv (h : Two G d y M R) (hs : TStep d y M R G M' R' G') : KeepRV G G' := fun n o ho h1 h2 =>
  hs.fr.2 n o ho (fun e => by subst e; rw [h.dk.ob] at ho; cases ho; exact h1 _ rfl) (fun e => by subst e; rw [h.dk.ma] at ho; cases ho; exact h2 _ rfl) (fun e => by subst e; rw [h.dk.mo] at ho; cases ho; exact h2 _ rfl) (fun e => by subst e; rw [h.rf.at_] at ho; cases ho; exact h1 _ rfl)
theorem Two.ney (h : Two G d y M R) : y ≠ d ∧ y ≠ M.m1 ∧ y ≠ M.m2 := by
  have hl := R.len
  refine ⟨fun e => ?_, fun e => ?_, fun e => ?_⟩
  · have this := h.rf.at_
    rw [e, h.dk.ob] at this
    have e2 := congrArg List.length (Ob.ptr.inj (Option.some.inj this))
    rw [hl] at e2
    have e3 : (5 : Nat) = 2052 := e2
    omega
  · have := h.rf.at_; rw [e, h.dk.ma] at this; cases this
  · have := h.rf.at_; rw [e, h.dk.mo] at this; cases this
theorem TStep.of_keeps (h : Two G d y M R) (hk : Keeps G G') (hl : G.length ≤ G'.length) : TStep d y M R G M R G' :=
  ⟨⟨h.dk.keeps hk, h.rf.keep (keepRV_of hk) (hk _ _ h.rf.at_)⟩, ⟨hl, fun n o ho _ _ _ _ => hk n o ho⟩, rfl, rfl, fun _ _ h => h⟩
/-- A step of the program's disk. -/
theorem TStep.disk (h : Two G d y M R) (hs : DStep d M G M' G') : TStep d y M R G M' R G' := by
  obtain ⟨n1, n2, n3⟩ := h.ney
  exact ⟨⟨hs.is_, h.rf.keep (frd_rv h.dk hs.fr) (hs.fr.2 y _ h.rf.at_ n1 n2 n3)⟩, ⟨hs.fr.1, fun n o ho a b c _ => hs.fr.2 n o ho a b c⟩, hs.m1, hs.m2, fun _ _ h => h⟩
/-- The document's disk is written over. -/
theorem IsDisk.setBig {a : Nat} {cells cells' : List Value} (h : IsDisk G d M) (ha : G[a]? = some (.ptr cells)) (hl : cells.length = 2052) : IsDisk (G.set a (.ptr cells')) d M := by
  have nx : ∀ (n : Nat) o, G[n]? = some o → (∀ c, o = .ptr c → c.length ≠ 2052) → (G.set a (.ptr cells'))[n]? = some o := fun n o ho hno => by
    rw [List.getElem?_set_ne fun e => ?_]
    · exact ho
    · subst e; rw [ha] at ho; cases ho; exact hno _ rfl hl
  refine ⟨nx _ _ h.ob fun c e => ?_, nx _ _ h.ma (fun c e => by cases e), nx _ _ h.mo (fun c e => by cases e), fun k q hq => ⟨nx _ _ (h.la k q hq).1 fun c e => ?_, (h.la k q hq).2⟩, h.lo, h.ne, h.rng, h.nd⟩
  · cases e; show (5 : Nat) ≠ 2052; decide
  · cases e
    rw [List.length_map, (h.la k q hq).2]
    decide
theorem TStep.refset {G1 : List Ob} (h : Two G d y M R) (R' : RefM) (hk : Keeps G G1) (hl : G.length ≤ G1.length) (hh : ∀ i, i < 512 → Hnd G1 (R'.sec i).lv (R'.sec i).lb ∧ Hnd G1 (R'.sec i).ov (R'.sec i).ob) (hn : ∀ k, k < G.length → R.ne k → R'.ne k) : TStep d y M R G M R' (G1.set y (.ptr R'.cells)) := by
  have hy1 := hk _ _ h.rf.at_
  have hrv : KeepRV G1 (G1.set y (.ptr R'.cells)) := set_rv hy1
  refine ⟨⟨(h.dk.keeps hk).setBig hy1 R.len, ⟨set_at hy1, fun i hi => (hh i hi).1.keep hrv, fun i hi => (hh i hi).2.keep hrv⟩⟩, ⟨by rw [List.length_set]; exact hl, fun n o ho _ _ _ e => ?_⟩, rfl, rfl, hn⟩
  rw [List.getElem?_set_ne (Ne.symm e)]
  exact hk n o ho
theorem Two.hnd (h : Two G d y M R) {G1 : List Ob} (hk : Keeps G G1) (i : Nat) (hi : i < 512) : Hnd G1 (R.sec i).lv (R.sec i).lb ∧ Hnd G1 (R.sec i).ov (R.sec i).ob := ⟨(h.rf.hl i hi).keep (keepRV_of hk), (h.rf.ho i hi).keep (keepRV_of hk)⟩
theorem keeps_refl : Keeps G G := fun _ _ h => h
theorem rst_step (h : Two G d y M R) : TStep d y M R G M (rstM R) (G.set y (.ptr (rstM R).cells)) :=
  TStep.refset h (rstM R) keeps_refl (Nat.le_refl _) (fun i hi => by rw [rstM_sec]; exact h.hnd keeps_refl i hi) (fun k _ hn i hi => by rw [rstM_sec]; exact hn i hi)
theorem rar_step (h : Two G d y M R) (n : Int) : TStep d y M R G M (rarM R n) (G.set y (.ptr (rarM R n).cells)) :=
  TStep.refset h (rarM R n) keeps_refl (Nat.le_refl _) (fun i hi => h.hnd keeps_refl i hi) (fun _ _ hn i hi => hn i hi)
theorem rw_step (h : Two G d y M R) (i : Int) (bs : List Int) : TStep d y M R G M (rwM G y R i bs) (rwG G y R i bs) := by
  unfold rwM rwG
  split
  · exact TStep.refl h
  split
  · exact TStep.refl h
  rename_i hb
  have hb : rwBad i bs.length = false := by simpa using hb
  have hbl : bs.length ≤ 128 ∧ 0 ≤ i ∧ i < 512 := by
    unfold rwBad at hb
    simp only [Bool.or_eq_false_iff, decide_eq_false_iff_not] at hb
    omega
  have h1 := rst_step h
  obtain ⟨S1, hS1⟩ : ∃ x, x = rwS G y R := ⟨_, rfl⟩
  have h1 : TStep d y M R G M (rstM R) S1 := by rw [hS1]; exact h1
  have hat := cp_at S1 (pad bs)
  obtain ⟨n, hn, hnl, hnr⟩ := cpV_tok S1 (pad_ne hbl.1)
  have hpl := pad_length hbl.1
  refine h1.trans ?_
  rw [← hS1]
  have hsec : ∀ j, (rwM1 G y R i bs).sec j = if j = i.toNat then { R.sec i.toNat with ov := tok n, ob := pad bs, is := true } else R.sec j := fun j => by
    show upS R.sec i.toNat (rwH G y R i bs) j = _
    unfold upS rwH
    rw [← hS1, hn]
  refine TStep.refset h1.two (rwM1 G y R i bs) hat.keep hat.len (fun j hj => ?_) (fun k hk hne j hj => ?_)
  · have h2 := h1.two.hnd (G1 := cpG S1 (pad bs)) hat.keep j hj
    rw [rstM_sec] at h2
    rw [hsec]
    by_cases e : j = i.toNat
    · subst e
      rw [if_pos rfl]
      exact ⟨h2.1, .inr ⟨n, rfl, by rw [← hpl]; exact hnr, hpl⟩⟩
    · rw [if_neg e]
      exact h2
  · have h2 := hne j hj
    rw [rstM_sec] at h2
    rw [hsec]
    by_cases e : j = i.toNat
    · subst e
      rw [if_pos rfl]
      refine ⟨h2.1, fun e' => ?_⟩
      have e' : tok n = tok k := e'
      have : n = k := tok_inj e'
      omega
    · rw [if_neg e]
      exact h2
theorem rsy_step (h : Two G d y M R) : TStep d y M R G M (rsyM R) (rsyG G y R) := by
  unfold rsyG
  split
  · rename_i ho
    have e : rsyM R = R := by unfold rsyM; rw [if_pos ho]
    rw [e]
    exact TStep.refl h
  · have hsec : ∀ j, (rsyM R).sec j = R.sec j ∨ (rsyM R).sec j = rsyS (R.sec j) := fun j => by
      unfold rsyM
      split
      · exact .inl rfl
      split
      · left; rw [rstM_sec]
      · show rsyF 512 R.sec j = _ ∨ rsyF 512 R.sec j = _
        unfold rsyF
        split
        · exact .inr rfl
        · exact .inl rfl
    refine TStep.refset h (rsyM R) keeps_refl (Nat.le_refl _) (fun i hi => ?_) (fun k _ hn i hi => ?_)
    · rcases hsec i with e | e
      · rw [e]; exact h.hnd keeps_refl i hi
      · rw [e]; exact ⟨(h.hnd keeps_refl i hi).2, .inl ⟨rfl, rfl⟩⟩
    · rcases hsec i with e | e
      · rw [e]; exact hn i hi
      · rw [e]; exact ⟨(hn i hi).2, fun e => by cases e⟩
theorem rcr_step (h : Two G d y M R) (keep : List Int) : TStep d y M R G M (rcrM R keep) (rcrG G y R keep) := by
  have hsec : ∀ j, (rcrM R keep).sec j = R.sec j ∨ ∃ k, (rcrM R keep).sec j = rcrS (R.sec j) k := fun j => by
    show rcrF keep 512 R.sec j = _ ∨ ∃ k, rcrF keep 512 R.sec j = _
    unfold rcrF
    split
    · exact .inr ⟨_, rfl⟩
    · exact .inl rfl
  refine TStep.refset h (rcrM R keep) keeps_refl (Nat.le_refl _) (fun i hi => ?_) (fun k _ hn i hi => ?_)
  · rcases hsec i with e | ⟨k, e⟩
    · rw [e]; exact h.hnd keeps_refl i hi
    · rw [e]
      have h0 := h.hnd keeps_refl i hi
      unfold rcrS
      split
      · exact ⟨h0.2, .inl ⟨rfl, rfl⟩⟩
      split
      · exact ⟨.inl ⟨rfl, rfl⟩, .inl ⟨rfl, rfl⟩⟩
      · exact ⟨h0.1, .inl ⟨rfl, rfl⟩⟩
  · rcases hsec i with e | ⟨k', e⟩
    · rw [e]; exact hn i hi
    · rw [e]
      have h0 := hn i hi
      have hnil : (Value.slice none 0 0) ≠ tok k := fun e => by cases e
      unfold rcrS
      split
      · exact ⟨h0.2, hnil⟩
      split
      · exact ⟨hnil, hnil⟩
      · exact ⟨h0.1, hnil⟩
/-- A row that is no sector's is written over. -/
theorem Two.setRow (h : Two G d y M R) {k s n : Nat} {cells : List Value} {o : Ob} (hk : G[k]? = some (.row s n cells)) (hne : R.ne k) : Two (G.set k o) d y M R := by
  have nx : ∀ (n' : Nat) o', G[n']? = some o' → n' ≠ k → (G.set k o)[n']? = some o' := fun n' o' ho e => by rw [List.getElem?_set_ne (Ne.symm e)]; exact ho
  have np : ∀ (n' : Nat) c, G[n']? = some (.ptr c) → n' ≠ k := fun n' c ho e => by subst e; rw [hk] at ho; cases ho
  have nm : ∀ (n' : Nat) c, G[n']? = some (.map c) → n' ≠ k := fun n' c ho e => by subst e; rw [hk] at ho; cases ho
  have hx : ∀ {v : Value} {bs : List Int}, Hnd G v bs → v ≠ tok k → Hnd (G.set k o) v bs := fun hv hn => hv.imp id fun ⟨n', e, h1, h2⟩ => ⟨n', e, nx _ _ h1 (fun e' => hn (by rw [e, e'])), h2⟩
  exact ⟨⟨nx _ _ h.dk.ob (np _ _ h.dk.ob), nx _ _ h.dk.ma (nm _ _ h.dk.ma), nx _ _ h.dk.mo (nm _ _ h.dk.mo), fun a q hq => ⟨nx _ _ (h.dk.la a q hq).1 (np _ _ (h.dk.la a q hq).1), (h.dk.la a q hq).2⟩, h.dk.lo, h.dk.ne, h.dk.rng, h.dk.nd⟩,
    ⟨nx _ _ h.rf.at_ (np _ _ h.rf.at_), fun i hi => hx (h.rf.hl i hi) (hne i hi).1, fun i hi => hx (h.rf.ho i hi) (hne i hi).2⟩⟩
theorem Two.ne_new (h : Two G d y M R) {k : Nat} (hk : G.length ≤ k) : R.ne k := fun i hi => by
  have hx : ∀ {v : Value} {bs : List Int}, Hnd G v bs → v ≠ tok k := fun hv e => by
    rcases hv with ⟨e', _⟩ | ⟨n, e', h1, _⟩
    · rw [e'] at e; cases e
    · rw [e'] at e
      have : n = k := by simpa [tok] using e
      have := (List.getElem?_eq_some_iff.1 h1).1
      omega
  exact ⟨hx (h.rf.hl i hi), hx (h.rf.ho i hi)⟩
end
end Go.Proofs.Ytcedgoaanlbldaa
