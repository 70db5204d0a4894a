/- What is proved: the contract of the disk's Crash; the contract of the law's place. No condition but those each law names. -/
import Derived.Test.YtaigdbnfhehclaaB0
import Derived.Test.YtaigdbnfhehclaaSzI
namespace Go.Proofs.Ytaigdbnfhehclaa
open Sx
set_option maxRecDepth 100000

/-- A slice that no disk's step turns. -/
def SlD (d : Nat) (M : DiskM) (G : List Ob) (v : Value) (s len : Nat) (cells : List Value) : Prop := ∀ G', FrD d M G G' → Sl G' v s len cells
/-- What becomes of a sector. -/
def fate3 (k : Int) : Int := (k.tmod 3 + 3).tmod 3
theorem fate_wrap (k : Int) : (IntKind.i64.wrap (k.tmod 3 + 3)).tmod 3 = fate3 k := by
  have h1 := Int.lt_tmod_of_pos k (b := 3) (by omega)
  have h2 := Int.tmod_lt_of_pos k (b := 3) (by omega)
  rw [wrap_in (by omega) (by omega)]
  rfl
def fateK (keep : List Int) (n : Nat) : Int := match keep[n]? with
  | some k => fate3 k
  | none => 0
def torM (M : DiskM) (k : Int) : DiskM := { M with la := putA M.la k none }
def crOne (s : List Ob × DiskM) (k f : Int) : List Ob × DiskM :=
  if f = 1 then (setG s.1 s.2 k, setM s.1 s.2 k) else if f = 2 then (s.1.set s.2.m1 (.map (encA laC (torM s.2 k).la)), torM s.2 k) else s
def crS (keep : List Int) : List Int → Nat → List Ob × DiskM → List Ob × DiskM
  | [], _, s => s
  | k :: r, n, s => crS keep r (n + 1) (crOne s k (fateK keep n))
def crG0 (G : List Ob) (M : DiskM) : List Ob := sorG (G ++ [.fn 52 [tok M.m2]]) M.lo
def crE (M : DiskM) : DiskM := { M with lo := [], off := false, left := -1 }
def crF (d : Nat) (s : List Ob × DiskM) : List Ob × DiskM := ((s.1.set s.2.m2 (.map [])).set d (.ptr (crE s.2).cells), crE s.2)
def crash (G : List Ob) (d : Nat) (M : DiskM) (keep : List Int) : List Ob × DiskM := crF d (crS keep (keyL M.lo) 0 (crG0 G M, M))
def craR (G : List Ob) (l : List Value) (e : Env) : Prop := ∃ d M v keep, l = [tokAt d 0, v] ∧ IsDisk G d M ∧ SlD d M G v 1 keep.length (keep.map (Value.int .i64)) ∧ e.g gv = encG (crash G d M keep).1
def craC : Con := mkCon 16 [] (.tup []) 2
theorem one_step {s : List Ob × DiskM} {d : Nat} (h : IsDisk s.1 d s.2) (k f : Int) : DStep d s.2 s.1 (crOne s k f).2 (crOne s k f).1 := by
  unfold crOne
  split
  · exact set_step h k
  split
  · exact h.putLa (torM s.2 k).la fun k' q hq => by
      rcases putA_mem hq with e | hq
      · injection e with e1 e2
        cases e2
      · exact h.la k' q hq
  · exact DStep.refl h
theorem one_lo (s : List Ob × DiskM) (k f : Int) : (crOne s k f).2.lo = s.2.lo := by
  unfold crOne
  split
  · rfl
  split <;> rfl
theorem keyL_len {G : List Ob} {d : Nat} {M : DiskM} (h : IsDisk G d M) : (keyL M.lo).length ≤ 512 := by
  have := nodup_le 512 _ h.nd fun x hx => by
    obtain ⟨p, hp, rfl⟩ := List.mem_map.1 hx
    exact (h.lo p hp).2
  unfold keyL
  rwa [List.length_mergeSort]
theorem crS_step {keep : List Int} {d : Nat} : ∀ (ks : List Int) (n : Nat) (s : List Ob × DiskM), IsDisk s.1 d s.2 → DStep d s.2 s.1 (crS keep ks n s).2 (crS keep ks n s).1
  | [], _, _, h => DStep.refl h
  | k :: r, n, _, h => (one_step h k _).trans (crS_step r (n + 1) _ (one_step h k _).is_)
theorem crG0_keeps (G : List Ob) (M : DiskM) : Keeps G (crG0 G M) ∧ G.length ≤ (crG0 G M).length := by
  unfold crG0 sorG
  split
  · exact ⟨Keeps.append _ _, by simp⟩
  · exact ⟨by rw [List.append_assoc]; exact Keeps.append _ _, by simp⟩
theorem crF_step {s : List Ob × DiskM} {d : Nat} (h : IsDisk s.1 d s.2) : DStep d s.2 s.1 (crF d s).2 (crF d s).1 := by
  have h1 := h.putLo [] (fun p hp => by cases hp) List.nodup_nil
  exact h1.trans (h1.is_.put (M' := crE s.2) rfl rfl rfl rfl (by show -1 ≤ (-1 : Int) ∧ (-1 : Int) < _; omega))
theorem cra_step {G : List Ob} {d : Nat} {M : DiskM} (h : IsDisk G d M) (keep : List Int) : DStep d M G (crash G d M keep).2 (crash G d M keep).1 := by
  obtain ⟨k1, k2⟩ := crG0_keeps G M
  have h1 := DStep.of_keeps h k1 k2
  have h2 := crS_step (keep := keep) (keyL M.lo) 0 (crG0 G M, M) h1.is_
  exact (h1.trans h2).trans (crF_step (d := d) h2.is_)
def crap : List Con := [kysC, sorC, setC, loadC 3 (.int .i64 (.var 0)), loadC 54 (.hnd 0), loadC 55 (.hnd 0), lenC 22, idxC 22, upC 54, clrC 55, storeC 4, storeC 3]
def crapS : List ConS := [conR kysR, conR sorR, conR setR, conR (loadR (.int .i64 (.var 0))), conR (loadR (.hnd 0)), conR (loadR (.hnd 0)), conR lenR, conR (idxR 1), conR (upR IntK), conR clrR, conR (storeR 1), conR (storeR 1)]
theorem crap_holds : Cons Try.prog crap crapS :=
  ⟨kys_holds, sor_holds, set_holds, load_holds (by kernel_rfl) rfl, load_holds (by kernel_rfl) rfl, load_holds (by kernel_rfl) rfl, len_holds Try.underlying22, idx_holds Try.underlying22 (by kernel_rfl), up_holds Try.underlying54 (keyInt Try.underlying3), clr_holds Try.underlying55, store_holds (by kernel_rfl), store_holds (by kernel_rfl), trivial⟩
/-- The sorted keys: the value, and where they lie. -/
theorem sor_sl {G : List Ob} {d : Nat} {M : DiskM} (h : IsDisk G d M) : SlD d M (crG0 G M) (sorV (G ++ [.fn 52 [tok M.m2]]) M.lo) 1 (keyL M.lo).length ((keyL M.lo).map (Value.int .i64)) := fun G' hf => by
  have hl1 := (List.getElem?_eq_some_iff.1 h.ma).1
  have hl2 := (List.getElem?_eq_some_iff.1 h.mo).1
  have hld := (List.getElem?_eq_some_iff.1 h.ob).1
  unfold crG0 at hf
  cases hlo : M.lo with
  | nil => exact .inl ⟨rfl, by simp [keyL], by simp [keyL]⟩
  | cons p r =>
    rw [hlo] at hf
    have hkl : (keyL (p :: r)).length = r.length + 1 := by
      unfold keyL
      rw [List.length_mergeSort, List.length_map]
      rfl
    have h0 := hf.2 (G ++ [Ob.fn 52 [tok M.m2]]).length (.ro 1 (r.length + 1) ((keyL (p :: r)).map (Value.int .i64))) (by unfold sorG; rw [List.getElem?_append_right (Nat.le_refl _), Nat.sub_self]; rfl) (by simp; omega) (by simp; omega) (by simp; omega)
    refine .inr ⟨_, 0, _, ⟨_, rfl, .inl ⟨_, .inr (by rw [hkl]; exact h0), rfl, rfl⟩⟩, by unfold cellsAt; rw [h0]; rfl, by simp, by simp [List.take_of_length_le]⟩
def crInv (d : Nat) (M : DiskM) (keep : List Int) (G0 : List Ob) (nv : Nat) (ρ : Env) : Prop :=
  ∃ (s : List Ob × DiskM) (n : Nat), ρ.g (nv + 999) = encG s.1 ∧ ρ.i nv = n ∧ n ≤ (keyL M.lo).length ∧ DStep d M G0 s.2 s.1 ∧ crS keep ((keyL M.lo).drop n) n s = crS keep (keyL M.lo) 0 (G0, M)
def crLQ (d : Nat) (M : DiskM) (keep : List Int) (G0 : List Ob) : LoopS := ⟨fun _ nv ρ => crInv d M keep G0 nv ρ, fun _ nv ρ => ((keyL M.lo).length - ρ.i nv).toNat⟩
def treeCrash : Tree :=
 (.call 5 3200 [(.pla (.var 0) (.lit 0) 1), (.var 199)]
 (.call 0 4200 [(.hnd 3200), (.var 199)]
 (.call 1 5200 [(.hnd 4200), (.var 5199)]
 (.call 6 6200 [(.hnd 5200), (.var 6199)]
 (.loop 1 8200 [(8200, (.int .i64 (.lit 0))), (9199, (.var 6199))]
 (.split (.cmp .lss (.var 8200) (.var 6200))
 (.call 7 11200 [(.hnd 5200), (.int .i64 (.var 8200)), (.var 9199)]
 (.call 3 12200 [(.pla (.var 11200) (.var 11201) 0), (.var 9199)]
 (.call 6 18200 [(.hnd 1), (.var 9199)]
 (.split (.cmp .lss (.var 8200) (.var 18200))
 (.call 7 22200 [(.hnd 1), (.int .i64 (.var 8200)), (.var 9199)]
 (.call 3 23200 [(.pla (.var 22200) (.var 22201) 0), (.var 9199)]
 (.split (.cmp .eql (.bin .rem .i64 (.bin .add .i64 (.bin .rem .i64 (.var 23200) (.lit 3)) (.lit 3)) (.lit 3)) (.lit 1))
 (.call 2 33200 [(.pla (.var 0) (.lit 0) 0), (.int .i64 (.var 12200)), (.var 9199)]
 (.again 1 8200 [(8200, (.int .i64 (.bin .add .i64 (.var 8200) (.lit 1)))), (9199, (.var 34199))]))
 (.split (.cmp .eql (.bin .rem .i64 (.bin .add .i64 (.bin .rem .i64 (.var 23200) (.lit 3)) (.lit 3)) (.lit 3)) (.lit 2))
 (.call 4 36200 [(.pla (.var 0) (.lit 0) 0), (.var 9199)]
 (.call 8 38200 [(.hnd 36200), (.int .i64 (.var 12200)), (.lit (.pointer none)), (.var 9199)]
 (.again 1 8200 [(8200, (.int .i64 (.bin .add .i64 (.var 8200) (.lit 1)))), (9199, (.var 39199))])))
 (.again 1 8200 [(8200, (.int .i64 (.bin .add .i64 (.var 8200) (.lit 1)))), (9199, (.var 9199))])))))
 (.again 1 8200 [(8200, (.int .i64 (.bin .add .i64 (.var 8200) (.lit 1)))), (9199, (.var 9199))])))))
 (.call 5 13200 [(.pla (.var 0) (.lit 0) 1), (.var 9199)]
 (.call 9 14200 [(.hnd 13200), (.var 9199)]
 (.call 10 19200 [(.pla (.var 0) (.lit 0) 2), (.bool (.lit false)), (.var 15199)]
 (.call 11 22200 [(.pla (.var 0) (.lit 0) 3), (.int .i64 (.lit (-1))), (.var 20199)]
 (leafG (.tup ([])) .nil 23199)))))))))))
theorem cra_holds : craC.holds Try.prog (conR craR) := by
  refine con_of_runG (cs := crap) (S := crapS) (LT := [(1, ⟨[(14, fun b => .int .i64 (.var b))], [], [], true⟩)]) (depth := 1) (fuel := 10) (nv := 200) (av := [dk, .hnd 1]) (T := treeCrash) crap_holds (by kernel_rfl) (by kernel_rfl) (by kernel_rfl) ?_
  rintro G l e0 ⟨d, M, v, keep, rfl, h, hv, hG⟩
  have hv1 := (hv G FrD.refl).one
  obtain ⟨k1, k2⟩ := crG0_keeps G M
  have h0 := DStep.of_keeps h k1 k2
  have hks := sor_sl h
  have hs1 := (hks _ FrD.refl).one
  refine ⟨crLQ d M keep (crG0 G M), (Env.ofL [.int .i64 d, v]).st (encG G), by show [tokAt d 0, v] = [_, oneOf v]; rw [oneOf_eq hv1]; rfl, rfl, ?_⟩
  refine h.map2 rfl rfl ?_
  refine sem_step G [tok M.m2] ((Env.ofL [tok G.length]).ans (encG (G ++ [.fn 52 [tok M.m2]]))) rfl rfl ⟨M.m2, rfl, ⟨_, h.mo⟩, rfl, rfl⟩ ?_
  refine sem_step (G ++ [.fn 52 [tok M.m2]]) [tok G.length] ((Env.ofL [sorV (G ++ [.fn 52 [tok M.m2]]) M.lo]).ans (encG (crG0 G M))) rfl rfl ⟨G.length, M.m2, M.lo, rfl, ?_, ?_, fun p hp => (h.lo p hp).2, rfl, rfl⟩ ?_
  · rw [List.getElem?_append_right (Nat.le_refl _), Nat.sub_self]; rfl
  · exact Keeps.append _ _ _ _ h.mo
  refine sem_step (crG0 G M) [sorV (G ++ [.fn 52 [tok M.m2]]) M.lo] (Env.ofL [.int .i64 (keyL M.lo).length]) rfl (by show [oneOf (sorV (G ++ [.fn 52 [tok M.m2]]) M.lo), encG (crG0 G M)] = [sorV (G ++ [.fn 52 [tok M.m2]]) M.lo, encG (crG0 G M)]; rw [oneOf_eq hs1]) ⟨_, 1, _, _, rfl, hks _ FrD.refl, rfl⟩ ?_
  refine sem_loop (Env.from_ _ 8200 ((Env.ofL [.int .i64 0]).ans (encG (crG0 G M)))) (Env.from_ag _ _ _) rfl ⟨(crG0 G M, M), 0, rfl, rfl, Nat.zero_le _, DStep.refl h0.is_, rfl⟩ (by kernel_rfl) (fun ρ1 ρ2 h => ?_) (fun ρ hag hinv => ?_)
  · show (((keyL M.lo).length : Int) - ρ2.i 8200).toNat = (((keyL M.lo).length : Int) - ρ1.i 8200).toNat
    rw [(h 8200 (by decide)).1]
  obtain ⟨s, n, hg, hi, hn, hst, hcr⟩ := hinv
  have hg : ρ.g 9199 = encG s.1 := hg
  have hi : ρ.i 8200 = n := hi
  have x0 : ρ.i 0 = d := (hag 0 (by decide)).1
  have x1 : ρ.v 1 = v := (hag 1 (by decide)).2.2
  have x2 : ρ.v 5200 = sorV (G ++ [.fn 52 [tok M.m2]]) M.lo := (hag 5200 (by decide)).2.2
  have x3 : ρ.i 6200 = (keyL M.lo).length := (hag 6200 (by decide)).1
  have hsl := hks _ hst.fr
  have hvl := hv _ (h0.fr.trans hst.fr rfl rfl)
  have hd := hst.is_
  have hkl := keyL_len h
  refine sem_split (fun hc => ?_) (fun hc => ?_)
  · have hc : ρ.i 8200 < ρ.i 6200 := of_decide_eq_true hc
    rw [x3] at hc
    have hnl : n < (keyL M.lo).length := by omega
    obtain ⟨m, p, all, q1, q2, q3, q4⟩ := sl_at hsl Nat.one_pos (i := ρ.i 8200) (by omega) (by omega)
    have q5 := q4 0 Nat.one_pos
    rw [hi, Int.toNat_natCast, Nat.mul_one, Nat.add_zero, Nat.add_zero, List.getElem?_map, List.getElem?_eq_getElem hnl] at q5
    obtain ⟨k, hk⟩ : ∃ k, k = (keyL M.lo)[n] := ⟨_, rfl⟩
    rw [← hk] at q5
    have hdrop : (keyL M.lo).drop n = k :: (keyL M.lo).drop (n + 1) := by rw [hk]; exact List.drop_eq_getElem_cons hnl
    have hw := wrap_up' (i := ρ.i 8200) (by omega) (by omega)
    have again : ∀ (ρ' : Env) (B : List (Nat × E)) (s' : List Ob × DiskM), s' = crOne s k (fateK keep n) → ρ'.i 8200 = ρ.i 8200 → Bound ρ' (Env.from_ ρ' 8200 ((Env.ofL [.int .i64 (ρ.i 8200 + 1)]).ans (encG s'.1))) B →
        treeSem crapS (crLQ d M keep (crG0 G M)) (KF [] (.tup []) e0 2) ρ' (.again 1 8200 B) := fun ρ' B s' hs' hi' hB => by
      refine sem_again (Env.from_ ρ' 8200 ((Env.ofL [.int .i64 (ρ.i 8200 + 1)]).ans (encG s'.1))) (Env.from_ag _ _ _) hB ⟨s', n + 1, rfl, ?_, hnl, ?_, ?_⟩ ?_
      · show ρ.i 8200 + 1 = _
        rw [hi]; simp
      · rw [hs']; exact hst.trans (one_step hd k _)
      · rw [← hcr, hdrop, hs']; rfl
      · show (((keyL M.lo).length : Int) - (ρ.i 8200 + 1)).toNat < (((keyL M.lo).length : Int) - ρ'.i 8200).toNat
        rw [hi']
        omega
    refine sem_step s.1 [sorV (G ++ [.fn 52 [tok M.m2]]) M.lo, .int .i64 (ρ.i 8200)] _ rfl (by show [oneOf (ρ.v 5200), Value.int .i64 (ρ.i 8200), ρ.g 9199] = _; rw [x2, hg, oneOf_eq hs1]; rfl) q1 ?_
    refine sem_step s.1 [tokAt m p] (Env.ofL [.int .i64 k]) rfl (by show [tokAt m (p + 0), ρ.g 9199] = _; rw [hg]; rfl) ⟨m, p, all, .int .i64 k, rfl, q2, q5, rfl⟩ ?_
    refine sem_step s.1 [v] (Env.ofL [.int .i64 keep.length]) rfl (by show [oneOf (ρ.v 1), ρ.g 9199] = _; rw [x1, hg, oneOf_eq hv1]; rfl) ⟨v, 1, _, _, rfl, hvl, rfl⟩ ?_
    refine sem_split (fun hc2 => ?_) (fun hc2 => ?_)
    · have hc2 : ρ.i 8200 < (keep.length : Int) := of_decide_eq_true hc2
      have hnk : n < keep.length := by omega
      obtain ⟨m', p', all', r1, r2, r3, r4⟩ := sl_at hvl Nat.one_pos (i := ρ.i 8200) (by omega) hc2
      have r5 := r4 0 Nat.one_pos
      rw [hi, Int.toNat_natCast, Nat.mul_one, Nat.add_zero, Nat.add_zero, List.getElem?_map, List.getElem?_eq_getElem hnk] at r5
      have hf : fateK keep n = fate3 keep[n] := by unfold fateK; rw [List.getElem?_eq_getElem hnk]
      refine sem_step s.1 [v, .int .i64 (ρ.i 8200)] _ rfl (by show [oneOf (ρ.v 1), Value.int .i64 (ρ.i 8200), ρ.g 9199] = _; rw [x1, hg, oneOf_eq hv1]; rfl) r1 ?_
      refine sem_step s.1 [tokAt m' p'] (Env.ofL [.int .i64 keep[n]]) rfl (by show [tokAt m' (p' + 0), ρ.g 9199] = _; rw [hg]; rfl) ⟨m', p', all', .int .i64 keep[n], rfl, r2, r5, rfl⟩ ?_
      refine sem_split (fun h1 => ?_) (fun h1 => ?_)
      · have h1 : fateK keep n = 1 := by
          have h1 : ((IntKind.i64.wrap (keep[n].tmod 3 + 3)).tmod 3 == 1) = true := h1
          rw [hf, ← fate_wrap]
          exact eq_of_beq h1
        refine sem_step s.1 [tokAt d 0, .int .i64 k] ((Env.ofL []).ans (encG (setG s.1 s.2 k))) rfl (by show [tokAt (ρ.i 0).toNat 0, Value.int .i64 k, ρ.g 9199] = _; rw [x0, hg]; rfl) ⟨d, s.2, k, rfl, hd, rfl⟩ ?_
        refine again _ _ (setG s.1 s.2 k, setM s.1 s.2 k) (by unfold crOne; rw [if_pos h1]) rfl ?_
        show [Value.int .i64 (ρ.i 8200 + 1), _] = [Value.int .i64 (IntKind.i64.wrap (ρ.i 8200 + 1)), _]
        rw [hw]
        rfl
      · have h1 : ¬ fateK keep n = 1 := fun e => by
          have h1 : ((IntKind.i64.wrap (keep[n].tmod 3 + 3)).tmod 3 == 1) = false := h1
          rw [hf] at e
          rw [fate_wrap, e] at h1
          cases h1
        refine sem_split (fun h2 => ?_) (fun h2 => ?_)
        · have h2 : fateK keep n = 2 := by
            have h2 : ((IntKind.i64.wrap (keep[n].tmod 3 + 3)).tmod 3 == 2) = true := h2
            rw [hf, ← fate_wrap]
            exact eq_of_beq h2
          refine sem_step s.1 [tokAt d 0] (Env.ofL [tok s.2.m1]) rfl (by show [tokAt (ρ.i 0).toNat 0, ρ.g 9199] = _; rw [x0, hg]; rfl) ⟨d, 0, _, tok s.2.m1, rfl, cells_ptr hd.ob, rfl, rfl⟩ ?_
          refine sem_step s.1 [tok s.2.m1, .int .i64 k, .pointer none] ((Env.ofL []).ans (encG (s.1.set s.2.m1 (.map (encA laC (torM s.2 k).la))))) rfl (by show [oneOf (tok s.2.m1), Value.int .i64 k, Value.pointer none, ρ.g 9199] = _; rw [hg]; rfl)
            ⟨s.2.m1, _, _, _, rfl, hd.ma, ⟨k, rfl⟩, encA_int _ _, by rw [show Value.pointer none = laC none from rfl, putL_enc]; rfl⟩ ?_
          refine again _ _ (s.1.set s.2.m1 (.map (encA laC (torM s.2 k).la)), torM s.2 k) (by unfold crOne; rw [if_neg h1, if_pos h2]) rfl ?_
          show [Value.int .i64 (ρ.i 8200 + 1), _] = [Value.int .i64 (IntKind.i64.wrap (ρ.i 8200 + 1)), _]
          rw [hw]
          rfl
        · have h2 : ¬ fateK keep n = 2 := fun e => by
            have h2 : ((IntKind.i64.wrap (keep[n].tmod 3 + 3)).tmod 3 == 2) = false := h2
            rw [hf] at e
            rw [fate_wrap, e] at h2
            cases h2
          refine again _ _ s (by unfold crOne; rw [if_neg h1, if_neg h2]) rfl ?_
          show [Value.int .i64 (ρ.i 8200 + 1), encG s.1] = [Value.int .i64 (IntKind.i64.wrap (ρ.i 8200 + 1)), ρ.g 9199]
          rw [hw, hg]
    · have hc2 : ¬ ρ.i 8200 < (keep.length : Int) := of_decide_eq_false hc2
      have hf : fateK keep n = 0 := by unfold fateK; rw [List.getElem?_eq_none (by omega)]
      refine again _ _ s (by unfold crOne; rw [hf]; rfl) rfl ?_
      show [Value.int .i64 (ρ.i 8200 + 1), encG s.1] = [Value.int .i64 (IntKind.i64.wrap (ρ.i 8200 + 1)), ρ.g 9199]
      rw [hw, hg]
  · have hc : ¬ ρ.i 8200 < ρ.i 6200 := of_decide_eq_false hc
    rw [x3] at hc
    have hs : crS keep (keyL M.lo) 0 (crG0 G M, M) = s := by
      rw [← hcr, List.drop_of_length_le (by omega)]
      rfl
    have hd1 := hd.putLo [] (fun p hp => by cases hp) List.nodup_nil
    refine sem_step s.1 [tokAt d 1] (Env.ofL [tok s.2.m2]) rfl (by show [tokAt (ρ.i 0).toNat 1, ρ.g 9199] = _; rw [x0, hg]; rfl) ⟨d, 1, _, tok s.2.m2, rfl, cells_ptr hd.ob, rfl, rfl⟩ ?_
    refine sem_step s.1 [tok s.2.m2] ((Env.ofL []).ans (encG (s.1.set s.2.m2 (.map [])))) rfl (by show [oneOf (tok s.2.m2), ρ.g 9199] = _; rw [hg]; rfl) ⟨s.2.m2, _, rfl, hd.mo, rfl⟩ ?_
    refine sem_set1 (v := .bool false) hd1.is_.ob (by show 2 < 5; omega) rfl rfl rfl (fun cs e => by cases e) (by show [tokAt (ρ.i 0).toNat 2, _, _] = _; rw [x0]; rfl) ?_
    have hd2 := hd1.is_.put (M' := { s.2 with lo := [], off := false }) rfl rfl rfl rfl hd.rng
    refine sem_set1 (v := .int .i64 (-1)) hd2.is_.ob (by show 3 < 5; omega) rfl rfl rfl (fun cs e => by cases e) (by show [tokAt (ρ.i 0).toNat 3, _, _] = _; rw [x0]; rfl) ?_
    refine sem_retG rfl rfl trivial ?_
    rw [hG]
    unfold crash
    rw [hs, List.set_set]
    rfl
end Go.Proofs.Ytaigdbnfhehclaa

namespace Go.Proofs.Ytaigdbnfhehclaa
open Sx
set_option maxRecDepth 100000

end Go.Proofs.Ytaigdbnfhehclaa
