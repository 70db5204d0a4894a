/- What is proved: the walk of DiskFates; several lists that come in, as objects of one store that are only read; DiskFates returns true, whatever comes in. No condition but those each law names. -/
import Derived.Test.YtcedgoaanlbldaaF6
namespace Go.Proofs.Ytcedgoaanlbldaa
open Sx hiding Sl
set_option maxRecDepth 100000

theorem lit4_bs (G : List Ob) : bsR 1 4 G [.int .i64 1, .int .i64 2, .int .i64 1, .int .i64 2] ((Env.ofL [tok G.length]).ans (encG (G ++ [.ro 1 4 [.int .i64 1, .int .i64 2, .int .i64 1, .int .i64 2]]))) :=
  ⟨true, _, rfl, rfl, fun v hv => by
    simp only [List.mem_cons, List.not_mem_nil, or_false] at hv
    rcases hv with rfl | rfl | rfl | rfl <;> exact ⟨rfl, fun c hc => by (simp [Value.cells] at hc; subst hc; rfl), fun cs e => by cases e⟩, rfl, rfl⟩
theorem BodyI.sld {G : List Ob} {d : Nat} {M : DiskM} {v : Value} {ks : List Int} (h : BodyI G v ks) (hd : IsDisk G d M) : SlD d M G v 1 ks.length (ks.map (Value.int .i64)) := fun _ hf => (h.keep (frd_rv hd hf)).sl
theorem fates_sem {G : List Ob} {v1 v2 v3 : Value} {L1 L2 : List PD} {keep : List Int} (h1 : Puts G v1 L1) (h2 : Puts G v2 L2) (h3 : BodyI G v3 keep) : treeSem ftpS (ftLQ G L1 L2 keep) (KL G) ((Env.ofL [v1, v2, v3]).st (encG G)) treeFates := by
  have s1 := h1.sl
  have s2 := h2.sl
  have s3 := h3.sl
  have o1 := s1.one
  have o2 := s2.one
  have o3 := s3.one
  have hnk : Keeps G (newG G) := new_keeps G
  have worL : ∀ (ρ : Env) (b g : Nat) (Gx : List Ob), ρ.b b = true → ρ.g g = encG Gx → Keeps G Gx → treeSem ftpS (ftLQ G L1 L2 keep) (KL G) ρ (leafG (.bool (.var b)) .nil g) := fun ρ b g Gx hb hg hk =>
    sem_retL rfl (by show Value.bool (ρ.b b) = _; rw [hb]) hg hk
  refine sem_step G [] ((Env.ofL [.int .i64 (G.length + 2 : Nat)]).ans (encG (newG G))) rfl rfl ⟨rfl, rfl, rfl⟩ ?_
  refine sem_step (newG G) [v1] (Env.ofL [.int .i64 L1.length]) rfl (by show [oneOf v1, _] = _; rw [oneOf_eq o1]; rfl) ⟨v1, 2, _, _, rfl, sl_keep hnk s1, rfl⟩ ?_
  refine sem_split (fun _ => ?_) (fun hl1 => ?_)
  · refine sem_step (newG G) [] ((Env.ofL [.bool true]).ans (encG (w16 (newG G)))) rfl rfl ⟨rfl, rfl, rfl⟩ ?_
    exact worL _ _ _ (w16 (newG G)) rfl rfl fun n o ho => wor_keeps _ _ _ (hnk n o ho)
  refine sem_step (newG G) [v2] (Env.ofL [.int .i64 L2.length]) rfl (by show [oneOf v2, _] = _; rw [oneOf_eq o2]; rfl) ⟨v2, 2, _, _, rfl, sl_keep hnk s2, rfl⟩ ?_
  refine sem_split (fun _ => ?_) (fun hl2 => ?_)
  · refine sem_step (newG G) [] ((Env.ofL [.bool true]).ans (encG (w16 (newG G)))) rfl rfl ⟨rfl, rfl, rfl⟩ ?_
    exact worL _ _ _ (w16 (newG G)) rfl rfl fun n o ho => wor_keeps _ _ _ (hnk n o ho)
  refine sem_step (newG G) [v3] (Env.ofL [.int .i64 keep.length]) rfl (by show [oneOf v3, _] = _; rw [oneOf_eq o3]; rfl) ⟨v3, 1, _, _, rfl, sl_keep hnk s3, rfl⟩ ?_
  refine sem_split (fun _ => ?_) (fun hl3 => ?_)
  · refine sem_step (newG G) [] ((Env.ofL [.bool true]).ans (encG (w16 (newG G)))) rfl rfl ⟨rfl, rfl, rfl⟩ ?_
    exact worL _ _ _ (w16 (newG G)) rfl rfl fun n o ho => wor_keeps _ _ _ (hnk n o ho)
  have hl1 : ¬ ((L1.length : Nat) : Int) > 60 := of_decide_eq_false hl1
  have hl2 : ¬ ((L2.length : Nat) : Int) > 60 := of_decide_eq_false hl2
  have n0 := newG_length G
  have n1 : (newG G ++ [Ob.ptr nils20]).length = G.length + 4 := by rw [List.length_append, n0]; rfl
  have n2 : (newG G ++ [Ob.ptr nils20] ++ [Ob.ptr nils20]).length = G.length + 5 := by rw [List.length_append, n1]; rfl
  refine sem_step (newG G) [] ((Env.ofL [.int .i64 (G.length + 3 : Nat)]).ans (encG (newG G ++ [.ptr nils20]))) rfl rfl ⟨rfl, by rw [n0]; rfl, rfl⟩ ?_
  refine sem_step (newG G ++ [.ptr nils20]) [] ((Env.ofL [.int .i64 (G.length + 4 : Nat)]).ans (encG (newG G ++ [.ptr nils20] ++ [.ptr nils20]))) rfl rfl ⟨rfl, by rw [n1]; rfl, rfl⟩ ?_
  refine sem_step (newG G ++ [.ptr nils20] ++ [.ptr nils20]) [] ((Env.ofL [.int .i64 (G.length + 5 : Nat)]).ans (encG (ft0 G))) rfl rfl ⟨rfl, by rw [n2]; rfl, rfl⟩ ?_
  unfold ftR1
  refine sem_loop (Env.from_ _ 20200 ((Env.ofL [.int .i64 0]).ans (encG (ft0 G)))) (Env.from_ag _ _ _) rfl ⟨_, 0, rfl, rfl, Nat.zero_le _, P1.start G⟩ (by kernel_rfl) (fun ρ1 ρ2 h => ?_) (fun ρ hag hinv => ?_)
  · show ((L1.length : Int) - ρ2.i 20200).toNat = ((L1.length : Int) - ρ1.i 20200).toNat
    rw [(h 20200 (by decide)).1]
  obtain ⟨Gi, i, hg, hi, hil, hP⟩ := hinv
  have hg : ρ.g 21199 = encG Gi := hg
  have hi : ρ.i 20200 = i := hi
  have xd : ρ.i 1200 = (G.length + 2 : Nat) := (hag 1200 (by decide)).1
  have xa : ρ.i 16200 = (G.length + 3 : Nat) := (hag 16200 (by decide)).1
  have xb : ρ.i 17200 = (G.length + 4 : Nat) := (hag 17200 (by decide)).1
  have xc : ρ.i 18200 = (G.length + 5 : Nat) := (hag 18200 (by decide)).1
  have x0 : ρ.v 0 = v1 := (hag 0 (by decide)).2.2
  have x1 : ρ.v 1 = v2 := (hag 1 (by decide)).2.2
  have x2 : ρ.v 2 = v3 := (hag 2 (by decide)).2.2
  have hK : Keeps G Gi := by obtain ⟨M, A, B, bA, bB, is, hF, _⟩ := hP; exact hF.kp
  refine sem_step Gi [v1] (Env.ofL [.int .i64 L1.length]) rfl (by show [oneOf (ρ.v 0), ρ.g 21199] = _; rw [x0, hg, oneOf_eq o1]; rfl) ⟨v1, 2, _, _, rfl, sl_keep hK s1, rfl⟩ ?_
  refine sem_split (fun hc => ?_) (fun hc => ?_)
  · have hc : ρ.i 20200 < (L1.length : Int) := of_decide_eq_true hc
    exact put_1 hg xd xa x0 hi (by omega) h1 (by omega) hP
  clear hag
  obtain ⟨M1, d1, e1, hP2⟩ := hP.sync
  refine sem_step Gi [tokAt (G.length + 2) 0] ((Env.ofL [.int .i64 0]).ans (encG (sycG Gi (G.length + 2) M1))) rfl (by show [tokAt (ρ.i 1200).toNat 0, ρ.g 21199] = _; rw [xd, hg]; rfl) ⟨_, M1, rfl, d1, e1.symm, rfl⟩ ?_
  refine sem_yes rfl ?_
  unfold ftR2
  refine sem_loop (Env.from_ _ 29200 ((Env.ofL [.int .i64 0]).ans (encG (sycG Gi (G.length + 2) M1)))) (Env.from_ag _ _ _) rfl ⟨_, 0, rfl, rfl, Nat.zero_le _, hP2⟩ (by kernel_rfl) (fun ρ1 ρ2 h => ?_) (fun ρ' hag hinv => ?_)
  · show ((L2.length : Int) - ρ2.i 29200).toNat = ((L2.length : Int) - ρ1.i 29200).toNat
    rw [(h 29200 (by decide)).1]
  obtain ⟨Gj, j, hg', hj, hjl, hP'⟩ := hinv
  have hg' : ρ'.g 30199 = encG Gj := hg'
  have hj : ρ'.i 29200 = j := hj
  have yd : ρ'.i 1200 = (G.length + 2 : Nat) := (hag 1200 (by decide)).1.trans xd
  have ya : ρ'.i 16200 = (G.length + 3 : Nat) := (hag 16200 (by decide)).1.trans xa
  have yb : ρ'.i 17200 = (G.length + 4 : Nat) := (hag 17200 (by decide)).1.trans xb
  have yc : ρ'.i 18200 = (G.length + 5 : Nat) := (hag 18200 (by decide)).1.trans xc
  have y1 : ρ'.v 1 = v2 := (hag 1 (by decide)).2.2.trans x1
  have y2 : ρ'.v 2 = v3 := (hag 2 (by decide)).2.2.trans x2
  have hK' : Keeps G Gj := by obtain ⟨M, A, B, bA, bB, is, hF, _⟩ := hP'; exact hF.kp
  refine sem_step Gj [v2] (Env.ofL [.int .i64 L2.length]) rfl (by show [oneOf (ρ'.v 1), ρ'.g 30199] = _; rw [y1, hg', oneOf_eq o2]; rfl) ⟨v2, 2, _, _, rfl, sl_keep hK' s2, rfl⟩ ?_
  refine sem_split (fun hc => ?_) (fun hc => ?_)
  · have hc : ρ'.i 29200 < (L2.length : Int) := of_decide_eq_true hc
    exact put_2 hg' yd yb yc y1 hj (by omega) h2 (by omega) hP'
  clear hag
  obtain ⟨M2, d2, hP3⟩ := hP'.crash keep
  refine sem_step Gj [tokAt (G.length + 2) 0, v3] ((Env.ofL []).ans (encG (crash Gj (G.length + 2) M2 keep).1)) rfl (by show [tokAt (ρ'.i 1200).toNat 0, oneOf (ρ'.v 2), ρ'.g 30199] = _; rw [yd, y2, hg', oneOf_eq o3]; rfl) ⟨_, M2, v3, keep, rfl, d2, (h3.keep (keeps_rv hK')).sld d2, rfl⟩ ?_
  unfold ftR3
  refine sem_loop (Env.from_ _ 38200 ((Env.ofL [.int .i64 0]).ans (encG (crash Gj (G.length + 2) M2 keep).1))) (Env.from_ag _ _ _) rfl ⟨_, 0, rfl, rfl, Nat.zero_le _, hP3⟩ (by kernel_rfl) (fun ρ1 ρ2 h => ?_) (fun ρ3 hag hinv => ?_)
  · show ((2 : Int) - ρ2.i 38200).toNat = ((2 : Int) - ρ1.i 38200).toNat
    rw [(h 38200 (by decide)).1]
  obtain ⟨Gk, n, hg3, hn, hnl, hP4⟩ := hinv
  have hg3 : ρ3.g 39199 = encG Gk := hg3
  have hn : ρ3.i 38200 = n := hn
  have zd : ρ3.i 1200 = (G.length + 2 : Nat) := (hag 1200 (by decide)).1.trans yd
  have za : ρ3.i 16200 = (G.length + 3 : Nat) := (hag 16200 (by decide)).1.trans ya
  have zb : ρ3.i 17200 = (G.length + 4 : Nat) := (hag 17200 (by decide)).1.trans yb
  have zc : ρ3.i 18200 = (G.length + 5 : Nat) := (hag 18200 (by decide)).1.trans yc
  have z2 : ρ3.v 2 = v3 := (hag 2 (by decide)).2.2.trans y2
  clear hag
  refine sem_split (fun hc => ?_) (fun hc => ?_)
  · have hc : ρ3.i 38200 < 2 := of_decide_eq_true hc
    refine sem_loop (Env.from_ _ 43200 ((Env.ofL [.int .i64 0, .int .i64 0]).ans (encG Gk))) (Env.from_ag _ _ _) (by show [Value.int .i64 0, Value.int .i64 0, encG Gk] = [Value.int .i64 0, Value.int .i64 0, ρ3.g 39199]; rw [hg3]) ⟨_, 0, 0, rfl, rfl, rfl, Nat.zero_le _, hP4⟩ (by kernel_rfl) (fun ρ1 ρ2 h => ?_) (fun ρ4 hag hinv => ?_)
    · show ((20 : Int) - ρ2.i 43201).toNat = ((20 : Int) - ρ1.i 43201).toNat
      rw [(h 43201 (by decide)).1]
    obtain ⟨Gl, k, a, hg4, ha, hk, hkl, hP5⟩ := hinv
    have hg4 : ρ4.g 44199 = encG Gl := hg4
    have ha : ρ4.i 43200 = a := ha
    have hk : ρ4.i 43201 = k := hk
    have td : ρ4.i 1200 = (G.length + 2 : Nat) := (hag 1200 (by decide)).1.trans zd
    have t2 : ρ4.v 2 = v3 := (hag 2 (by decide)).2.2.trans z2
    have tn : ρ4.i 38200 = n := (hag 38200 (by decide)).1.trans hn
    obtain ⟨M, A, B, bA, bB, is, hF, hM, hlo, hla, e5⟩ := id hP5
    subst e5
    refine sem_split (fun hc2 => ?_) (fun hc2 => ?_)
    · have hc2 : ρ4.i 43201 < 20 := of_decide_eq_true hc2
      exact look_all hg4 td ((hag 16200 (by decide)).1.trans za) hk ha (by omega) hF hM hlo hla ((hag 17200 (by decide)).1.trans zb) ((hag 18200 (by decide)).1.trans zc) t2 (h3.keep (keeps_rv hF.kp))
    clear hag
    unfold ftBack
    have hkp : Keeps Gl (Gl ++ [.ro 1 4 [.int .i64 1, .int .i64 2, .int .i64 1, .int .i64 2]]) := Keeps.append _ _
    obtain ⟨M6, d6, hP6⟩ := hP5.crash [1, 2, 1, 2] hkp (by simp)
    have hb : BodyI (Gl ++ [.ro 1 4 [.int .i64 1, .int .i64 2, .int .i64 1, .int .i64 2]]) (tok Gl.length) [1, 2, 1, 2] := .inr ⟨_, rfl, by rw [List.getElem?_append_right (Nat.le_refl _), Nat.sub_self]; rfl⟩
    refine sem_step Gl [.int .i64 1, .int .i64 2, .int .i64 1, .int .i64 2] _ rfl (by show [Value.int .i64 1, .int .i64 2, .int .i64 1, .int .i64 2, ρ4.g 44199] = _; rw [hg4]; rfl) (lit4_bs Gl) ?_
    refine sem_step _ [tokAt (G.length + 2) 0, tok Gl.length] ((Env.ofL []).ans (encG (crash (Gl ++ [.ro 1 4 [.int .i64 1, .int .i64 2, .int .i64 1, .int .i64 2]]) (G.length + 2) M6 [1, 2, 1, 2]).1)) rfl (by show [tokAt (ρ4.i 1200).toNat 0, _, _] = _; rw [td]; rfl) ⟨_, M6, _, [1, 2, 1, 2], rfl, d6, hb.sld d6, rfl⟩ ?_
    refine sem_again (Env.from_ _ 38200 ((Env.ofL [.int .i64 ((n : Int) + 1)]).ans (encG (crash (Gl ++ [.ro 1 4 [.int .i64 1, .int .i64 2, .int .i64 1, .int .i64 2]]) (G.length + 2) M6 [1, 2, 1, 2]).1))) (Env.from_ag _ _ _) ?_ ⟨_, n + 1, rfl, ?_, by omega, hP6⟩ ?_
    · show [Value.int .i64 ((n : Int) + 1), encG _] = [Value.int .i64 (IntKind.i64.wrap (ρ4.i 38200 + 1)), encG _]
      rw [tn, wrap_in (by omega) (by omega)]
    · show (n : Int) + 1 = _
      simp
    · show ((2 : Int) - ((n : Int) + 1)).toNat < ((2 : Int) - ρ4.i 38200).toNat
      rw [tn]
      omega
  · obtain ⟨M, A, B, bA, bB, is, hF, hM, hlo, hla, e5⟩ := hP4
    unfold ftEnd
    have k1 := rds_keeps hF.is_ 20 []
    have hF1 := hF.keeps k1.1 k1.2
    have k2 := rds_keeps hF1.is_ 511 []
    have hF2 := hF1.keeps k2.1 k2.2
    refine sem_step Gk [tokAt (G.length + 2) 0, .int .i64 20, .slice none 0 0] ((Env.ofL [.bool true]).ans (encG (rdsG Gk M 20 []))) rfl (by show [tokAt (ρ3.i 1200).toNat 0, Value.int .i64 20, Value.slice none 0 0, ρ3.g 39199] = _; rw [zd, hg3]; rfl) ⟨_, M, _, _, [], rfl, hF.is_, .inl ⟨rfl, rfl, rfl⟩, by simp, (fate_out hlo hla (i := 20) (by omega) (by omega)).symm, rfl⟩ ?_
    refine sem_yes rfl ?_
    refine sem_step (rdsG Gk M 20 []) [tokAt (G.length + 2) 0, .int .i64 511, .slice none 0 0] ((Env.ofL [.bool true]).ans (encG (rdsG (rdsG Gk M 20 []) M 511 []))) rfl (by show [tokAt (ρ3.i 1200).toNat 0, Value.int .i64 511, Value.slice none 0 0, _] = _; rw [zd]; rfl) ⟨_, M, _, _, [], rfl, hF1.is_, .inl ⟨rfl, rfl, rfl⟩, by simp, (fate_out hlo hla (i := 511) (by omega) (by omega)).symm, rfl⟩ ?_
    refine sem_yes rfl ?_
    refine sem_step (rdsG (rdsG Gk M 20 []) M 511 []) [tokAt (G.length + 2) 0] ((Env.ofL [.bool false]).ans (encG (rdsG (rdsG Gk M 20 []) M 511 []))) rfl (by show [tokAt (ρ3.i 1200).toNat 0, _] = _; rw [zd]; rfl) ⟨_, M, rfl, hF2.is_, hM.1.symm, rfl⟩ ?_
    refine sem_no rfl ?_
    refine sem_step (rdsG (rdsG Gk M 20 []) M 511 []) [] ((Env.ofL [.bool true]).ans (encG (w16 (rdsG (rdsG Gk M 20 []) M 511 [])))) rfl rfl ⟨rfl, rfl, rfl⟩ ?_
    exact worL _ _ _ (w16 _) rfl rfl fun m o ho => wor_keeps _ _ _ (hF2.kp m o ho)
end Go.Proofs.Ytcedgoaanlbldaa

namespace Go.Proofs.Ytcedgoaanlbldaa
open Sx hiding Sl
open Go.RowKit hiding tok

/-- A row that is only read, in the store of all. -/
structure RowOk (w : World) (R : List RoW) (r : RoW) : Prop where
  le : r.len ≤ r.cap
  n : r.cells.length = r.len * r.s
  sp : 0 < r.cells.length → r.a.spot = none
  cells : ∀ (j : Nat) c, r.cells[j]? = some c → CellN w (rH R) R.length r.a.block (r.a.off + j) c
theorem rows_objs {w : World} {R : List RoW} (h : ∀ r ∈ R, RowOk w R r) : Objs w (rH R) (fun b x => ∃ i, i < R.length ∧ rF R i b x) (R.map RoW.ob) (rF R) :=
  objs_ro fun _ r hr => have k := h r (List.mem_of_getElem? hr); ⟨k.le, k.n, k.sp, k.cells⟩
def At (R Rp : List RoW) (o : Nat) : Prop := ∀ (i : Nat) r, Rp[i]? = some r → R[o + i]? = some r
/-- Rows that stand from number o on, and what they are. -/
def InRows (w : World) (o : Nat) (Rp : List RoW) (v v' : Value) (Q : List Ob → Prop) : Prop := ∀ R, At R Rp o → (∀ r ∈ Rp, RowOk w R r) ∧ Q (R.map RoW.ob) ∧ concE (rH R) v' = v ∧ Inv (rH R) R.length v'
theorem At.mid (A B C : List RoW) : At (A ++ B ++ C) B A.length := fun i r h => by
  have := (List.getElem?_eq_some_iff.1 h).1
  rw [List.append_assoc, List.getElem?_append_right (Nat.le_add_right _ _), Nat.add_sub_cancel_left, List.getElem?_append_left this, h]
theorem At.ob {R Rp : List RoW} {o i : Nat} {r : RoW} (h : At R Rp o) (hi : Rp[i]? = some r) : (R.map RoW.ob)[o + i]? = some r.ob := by rw [List.getElem?_map, h i r hi]; rfl
theorem At.tok {R Rp : List RoW} {o i : Nat} {r : RoW} (h : At R Rp o) (hi : Rp[i]? = some r) : concE (rH R) (tok (o + i)) = .slice (some r.a) r.len r.cap ∧ Inv (rH R) R.length (tok (o + i)) := by
  have hR := h i r hi
  refine ⟨?_, Inv.name (List.getElem?_eq_some_iff.1 hR).1⟩
  show (rH R (o + i)).val = _
  unfold rH
  rw [hR]
def Plain1 (c : Value) : Prop := c.oneCell' = true ∧ ∀ h, concE h c = c
/-- A slice of plain cells. -/
theorem row_ok {w : World} {R : List RoW} {a : Addr} {n c : Nat} {cells : List Value} (h : Sl w (some a) n c cells) (hp : ∀ x ∈ cells, Plain1 x) : RowOk w R ⟨a, 1, n, c, cells⟩ := by
  have hn : cells.length = n := h.len
  refine ⟨h.le, by show cells.length = n * 1; omega, fun h0 => ?_, fun j x hj => ?_⟩
  · have h0 : 0 < cells.length := h0
    rcases h.cells with he | ⟨b, o, he, _⟩
    · rw [he] at h0; cases h0
    · cases he; rfl
  · rcases h.cells with he | ⟨b, o, he, hc⟩
    · rw [he] at hj; cases hj
    · cases he
      obtain ⟨p1, p2⟩ := hp x (List.mem_of_getElem? hj)
      exact ⟨by rw [p2]; exact hc j x hj, p1, Inv.of_const p2⟩
theorem ints_part {w : World} {ao : Option Addr} {n c : Nat} {l : List Int} (h : Sl w ao n c (l.map (Value.int .i64))) (o : Nat) : ∃ Rp v', InRows w o Rp (.slice ao n c) v' (fun G => BodyI G v' l) := by
  have hl : l.length = n := by rw [← h.len, List.length_map]
  cases ao with
  | none =>
    have hc := h.nil rfl
    have := h.le
    refine ⟨[], .slice none 0 0, fun R _ => ⟨fun r hr => (by cases hr), .inl ⟨rfl, ?_⟩, ?_, Inv.of_const fun _ => rfl⟩⟩
    · exact List.eq_nil_of_length_eq_zero (by omega)
    · rw [hc, show n = 0 by omega]; rfl
  | some a =>
    refine ⟨[⟨a, 1, n, c, l.map (Value.int .i64)⟩], tok (o + 0), fun R hR => ⟨fun r hr => ?_, .inr ⟨_, rfl, ?_⟩, hR.tok (i := 0) (r := ⟨a, 1, n, c, l.map (Value.int .i64)⟩) rfl⟩⟩
    · rw [List.mem_singleton] at hr
      subst hr
      refine row_ok h fun x hx => ?_
      obtain ⟨k, _, rfl⟩ := List.mem_map.1 hx
      exact ⟨rfl, fun _ => rfl⟩
    · rw [hR.ob (i := 0) rfl, hl]
      rfl
theorem puts_part {w : World} {v : Value} {L : List PuW} (h : PutsW w v L) (o : Nat) : ∃ Rp v' L', InRows w o Rp v v' (fun G => Puts G v' L') := by
  rcases h with ⟨rfl, rfl⟩ | ⟨a, c, rfl, hle, hmx, hat⟩
  · exact ⟨[], .slice none 0 0, [], fun R _ => ⟨fun r hr => (by cases hr), ⟨.inl ⟨rfl, rfl⟩, fun x hx => (by cases hx), Nat.zero_le _⟩, rfl, Inv.of_const fun _ => rfl⟩⟩
  · refine ⟨L.map PuW.ro ++ [⟨a, 2, L.length, c, rowP (pusFrom o L)⟩], tok (o + L.length), pusFrom o L, fun R hR => ?_⟩
    have hlo : ∀ (i : Nat) x, L[i]? = some x → (L.map PuW.ro ++ [⟨a, 2, L.length, c, rowP (pusFrom o L)⟩])[i]? = some x.ro := fun i x hx => by
      have := (List.getElem?_eq_some_iff.1 hx).1
      rw [List.getElem?_append_left (by simpa using this), List.getElem?_map, hx]; rfl
    have hhi : (L.map PuW.ro ++ [⟨a, 2, L.length, c, rowP (pusFrom o L)⟩])[L.length]? = some ⟨a, 2, L.length, c, rowP (pusFrom o L)⟩ := by rw [List.getElem?_append_right (by simp)]; simp
    have hval : ∀ (i : Nat) x, L[i]? = some x → concE (rH R) (x.pd (o + i)).v = x.val ∧ Inv (rH R) R.length (x.pd (o + i)).v ∧ (x.pd (o + i)).v.oneCell' = true := fun i x hx => by
      obtain ⟨_, _, _, s1, _⟩ := hat i x hx
      show concE (rH R) (if x.ao.isNone then .slice none 0 0 else tok (o + i)) = .slice x.ao x.bs.length x.cap ∧ Inv _ _ (if x.ao.isNone then Value.slice none 0 0 else tok (o + i)) ∧ (if x.ao.isNone then Value.slice none 0 0 else tok (o + i)).oneCell' = true
      cases hao : x.ao with
      | none =>
        have hc := s1.nil hao
        have := s1.le
        rw [show x.bs.length = 0 by omega, hc]
        exact ⟨rfl, Inv.of_const fun _ => rfl, rfl⟩
      | some p =>
        obtain ⟨t1, t2⟩ := hR.tok (hlo i x hx)
        refine ⟨?_, t2, rfl⟩
        show concE (rH R) (tok (o + i)) = _
        rw [t1]
        show Value.slice (some (x.ao.getD ⟨0, 0, none⟩)) _ _ = _
        rw [hao]
        rfl
    refine ⟨fun r hr => ?_, ⟨.inr ⟨_, rfl, ?_⟩, fun x hx => ?_, ?_⟩, hR.tok hhi⟩
    · rcases List.mem_append.1 hr with hr | hr
      · obtain ⟨x, hx, rfl⟩ := List.mem_map.1 hr
        obtain ⟨i, hi⟩ := List.getElem?_of_mem hx
        obtain ⟨_, _, _, s1, _⟩ := hat i x hi
        cases hao : x.ao with
        | none =>
          have hc := s1.nil hao
          have := s1.le
          have e0 : x.bs = [] := List.eq_nil_of_length_eq_zero (by omega)
          refine ⟨s1.le, ?_, fun h0 => ?_, fun j y hj => ?_⟩
          · simp [PuW.ro]
          · simp [PuW.ro, e0] at h0
          · simp [PuW.ro, e0] at hj
        | some p =>
          rw [hao] at s1
          have := row_ok (R := R) (cells := x.bs.map fun (n : Nat) => Value.int .u8 (n : Int)) s1 fun y hy => (by obtain ⟨k, _, rfl⟩ := List.mem_map.1 hy; exact ⟨rfl, fun _ => rfl⟩)
          unfold PuW.ro
          rw [hao]
          exact this
      · rw [List.mem_singleton] at hr
        subst hr
        refine ⟨hle, by rw [rowP_length, pusFrom_length], fun h0 => ?_, fun j cc hj => ?_⟩
        · have h0 : 0 < (rowP (pusFrom o L)).length := h0
          rw [rowP_length, pusFrom_length] at h0
          rw [(hat 0 _ (List.getElem?_eq_getElem (by omega))).1]
        · have hj : (rowP (pusFrom o L))[j]? = some cc := hj
          rw [rowP_get, pusFrom_get, Option.bind_eq_some_iff] at hj
          obtain ⟨x', hx', hj⟩ := hj
          rw [Option.map_eq_some_iff] at hx'
          obtain ⟨x, hx, rfl⟩ := hx'
          obtain ⟨ha, q0, q1, s1, _⟩ := hat _ x hx
          obtain ⟨y1, y2, y3⟩ := hval _ x hx
          rw [ha] at q0 q1
          simp only [add_plain_addr] at q0 q1
          have hm := Nat.mod_lt j (show 0 < 2 by decide)
          have hdm := Nat.div_add_mod j 2
          show CellN w (rH R) R.length a.block (a.off + j) cc
          obtain ⟨m, hm'⟩ : ∃ m, m = j % 2 := ⟨_, rfl⟩
          rw [← hm'] at hj hm hdm
          match m, hm with
          | 0, _ =>
            cases hj
            exact ⟨by rw [show a.off + j = a.off + j / 2 * 2 by omega]; exact q0, rfl, Inv.of_const fun _ => rfl⟩
          | 1, _ =>
            cases hj
            exact ⟨by rw [show a.off + j = a.off + j / 2 * 2 + 1 by omega, q1, y1], y3, y2⟩
    · rw [hR.ob hhi, pusFrom_length]; rfl
    · obtain ⟨j, hj⟩ := List.getElem?_of_mem hx
      rw [pusFrom_get, Option.map_eq_some_iff] at hj
      obtain ⟨y, hy, rfl⟩ := hj
      obtain ⟨_, _, _, s1, _, s3⟩ := hat j y hy
      refine ⟨?_, by simpa [PuW.pd] using s3⟩
      show Body _ (if y.ao.isNone then Value.slice none 0 0 else tok (o + j)) (y.bs.map Int.ofNat)
      cases hao : y.ao with
      | none =>
        have hc := s1.nil hao
        have := s1.le
        exact .inl ⟨rfl, by rw [List.eq_nil_of_length_eq_zero (show y.bs.length = 0 by omega)]; rfl⟩
      | some p =>
        refine .inr ⟨o + j, rfl, ?_⟩
        rw [hR.ob (hlo j y hy), List.length_map, List.map_map]
        rfl
    · rw [pusFrom_length]; exact hmx
end Go.Proofs.Ytcedgoaanlbldaa

namespace Go.Proofs.Ytcedgoaanlbldaa
open Sx hiding Sl
open Go.ChangeShapes Go.WideShapes
set_option maxRecDepth 100000

theorem ro_all (R : List RoW) : ∀ (n : Nat) o, (R.map RoW.ob)[n]? = some o → ∃ s len cells, o = .ro s len cells := fun n o ho => by
  rw [List.getElem?_map, Option.map_eq_some_iff] at ho
  obtain ⟨r, _, rfl⟩ := ho
  exact ⟨_, _, _, rfl⟩
theorem Fates_any {w : World} {v1 v2 : Value} {L1 L2 : List PuW} {ao : Option Addr} {n c : Nat} {l : List Int} (h1 : PutsW w v1 L1) (h2 : PutsW w v2 L2) (h3 : Sl w ao n c (l.map (Value.int .i64))) : Calls Try.prog 3 #[v1, v2, .slice ao n c] w (Ret (.bool true) w) := by
  obtain ⟨R1, u1, K1, p1⟩ := puts_part h1 0
  obtain ⟨R2, u2, K2, p2⟩ := puts_part h2 R1.length
  obtain ⟨R3, u3, p3⟩ := ints_part h3 (R1 ++ R2).length
  have a1 := p1 (R1 ++ R2 ++ R3) (by have := At.mid [] R1 (R2 ++ R3); rwa [List.nil_append, ← List.append_assoc] at this)
  have a2 := p2 (R1 ++ R2 ++ R3) (At.mid R1 R2 R3)
  have a3 := p3 (R1 ++ R2 ++ R3) (by have := At.mid (R1 ++ R2) R3 []; rwa [List.append_nil] at this)
  obtain ⟨R, hR⟩ : ∃ R, R = R1 ++ R2 ++ R3 := ⟨_, rfl⟩
  rw [← hR] at a1 a2 a3
  obtain ⟨b1, c1, d1, e1⟩ := a1
  obtain ⟨b2, c2, d2, e2⟩ := a2
  obtain ⟨b3, c3, d3, e3⟩ := a3
  have H := rows_objs (w := w) (R := R) fun r hr => by
    rw [hR, List.mem_append, List.mem_append] at hr
    rcases hr with (hr | hr) | hr
    · exact b1 r hr
    · exact b2 r hr
    · exact b3 r hr
  have o1 := c1.sl.one
  have o2 := c2.sl.one
  have o3 := c3.sl.one
  have := law_of_run (P := Try.prog) (cs := ftp) (S := ftpS) (LT := [(7, ⟨[(11, fun b => .int .i64 (.var b))], [], [], true⟩), (16, ⟨[(14, fun b => .int .i64 (.var b))], [], [], true⟩), (25, ⟨[(17, fun b => .int .i64 (.var b))], [], [], true⟩), (29, ⟨[(18, fun b => .int .i64 (.var b)), (19, fun b => .int .i64 (.var (b + 1)))], [], [], true⟩)]) (depth := 1) (fuel := 20) (nv := 200) (f := 3) (av := [.hnd 0, .hnd 1, .hnd 2]) (T := treeFates) ftp_holds (by kernel_rfl) (by kernel_rfl) (by kernel_rfl) (vs := [u1, u2, u3]) H (ro_all R)
    (fun u hu => by
      rw [List.length_map]
      simp only [List.mem_cons, List.not_mem_nil, or_false] at hu
      rcases hu with rfl | rfl | rfl
      · exact e1
      · exact e2
      · exact e3)
    ⟨_, (Env.ofL [u1, u2, u3]).st (encG (R.map RoW.ob)), by show _ = [oneOf u1, oneOf u2, oneOf u3]; rw [oneOf_eq o1, oneOf_eq o2, oneOf_eq o3], rfl, fates_sem c1 c2 c3⟩
  have e : [u1, u2, u3].map (concE (rH R)) = [v1, v2, .slice ao n c] := by show [_, _, _] = _; rw [d1, d2, d3]
  rw [e] at this
  exact this
end Go.Proofs.Ytcedgoaanlbldaa
