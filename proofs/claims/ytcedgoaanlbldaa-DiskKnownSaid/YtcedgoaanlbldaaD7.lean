/- What is proved: the contract of the law's does; printed by mk_D7.py. No condition but those each law names. -/
import Derived.Test.YtcedgoaanlbldaaD6
namespace Go.Proofs.Ytcedgoaanlbldaa
open Sx hiding Sl
set_option maxRecDepth 100000

def opE (b : Nat) : List E := [.int .i64 (.var b), .int .i64 (.var (b + 1)), .hnd (b + 2), .hnd (b + 3)]
def opV (kd i : Int) (vB vK : Value) : List Value := [.int .i64 kd, .int .i64 i, vB, vK]
def dp2 : List Con := [lentC, lentCI, kptC, kptCI, spoC, pickC, wrC, rwC, sycC, rsyC, armC, rarC, craC, rcrC, countC, rcoC, downC, rdoC, lenC 27, lenC 23, cutC 27, cutC 23, boxC 49, loadC 3 (.int .i64 (.var 0)), loadC 27 (.hnd 0), loadC 23 (.hnd 0)]
def dp2S : List ConS := [conR lenR', conR lenRI', conR kptR, conR kptRI, conR spoR, pickS, conR wrR, conR rwR, conR sycR, conR rsyR, conR armR, conR rarR, conR craR, conR rcrR, conR countR, conR rcoR, conR downR, conR rdoR, conR lenR, conR lenR, conR (cut2R 1), conR (cut2R 1), conR boxR, conR (loadR (.int .i64 (.var 0))), conR (loadR (.hnd 0)), conR (loadR (.hnd 0))]
theorem dp2_holds : Cons Try.prog dp2 dp2S :=
  ⟨lent_holds, lent_holdsI, kept_holds, kept_holdsI, spo_holds, pick_holds, wr_holds, rw_holds, sync_holds, rsy_holds, arm_holds, rar_holds, cra_holds, rcr_holds, count_holds, rco_holds, down_holds, rdo_holds, len_holds Try.underlying27, len_holds Try.underlying23, cut2_holds Try.underlying27 (by kernel_rfl), cut2_holds Try.underlying23 (by kernel_rfl), box_holds, load_holds (by kernel_rfl) rfl, load_holds (by kernel_rfl) rfl, load_holds (by kernel_rfl) rfl, trivial⟩
/-- What does leaves behind the call of both. -/
def endG (G : List Ob) (db dk : Nat) (B K : List Int) : List Ob := (kptGI (kptG G db B.length) dk K.length).set db (.row 1 (B ++ mk5).length (marks (B ++ mk5).length))
structure DoEnd (G0 G : List Ob) (d y p db dk : Nat) (M : DiskM) (R : RefM) (kd i : Int) (vB vK : Value) (B K : List Int) : Prop where
  two : Two G d y M R
  sm : Same M R
  op : G[p]? = some (.ptr (opV kd i vB vK))
  rb : G[db]? = some (.row 1 (B ++ mk5).length ((B ++ mk5).map (Value.int .u8)))
  rk : G[dk]? = some (.row 1 (K ++ mk5I).length ((K ++ mk5I).map (Value.int .i64)))
  sB : SlK G vB 1 B.length (u8s B)
  sK : SlK G vK 1 K.length (K.map (Value.int .i64))
  lB : B.length ≤ 900000
  lK : K.length ≤ 900000
  ne : R.ne db
def dt0 : Tree :=
 (.call 24 40200 [(.pla (.var 200) (.lit 0) 2), (.var 33199)]
 (.call 2 41200 [(.hnd 4200), (.hnd 40200), (.var 33199)]
 (.split (.var 41200)
 (.call 25 46200 [(.pla (.var 200) (.lit 0) 3), (.var 42199)]
 (.call 3 47200 [(.hnd 8200), (.hnd 46200), (.var 42199)]
 (.call 4 51200 [(.hnd 4200), (.var 48199)]
 (.split (.var 47200)
 (.call 14 55200 [(.pla (.var 0) (.lit 0) 0), (.var 52199)]
 (.call 15 57200 [(.pla (.var 1) (.lit 0) 0), (.var 56199)]
 (.split (.cmp .eql (.var 55200) (.var 57200))
 (.call 16 62200 [(.pla (.var 0) (.lit 0) 0), (.var 58199)]
 (.call 17 64200 [(.pla (.var 1) (.lit 0) 0), (.var 63199)]
 (leafG (.bool (.iff (.var 62200) (.var 64200))) .nil 65199)))
 (leafG (.bool (.lit false)) .nil 58199))))
 (leafG (.bool (.lit false)) .nil 52199)))))
 (.call 4 51200 [(.hnd 4200), (.var 42199)]
 (leafG (.bool (.lit false)) .nil 52199)))))
theorem sem_dt0 {LQ : LoopS} {ρ : Env} {e0 : Env} {G0 G : List Ob} {d y p db dk : Nat} {M : DiskM} {R : RefM} {i kd : Int} {vB vK : Value} {B K : List Int} (hE : DoEnd G0 G d y p db dk M R kd i vB vK B K) (hg : ρ.g 33199 = encG G) (x0 : ρ.i 0 = (d : Nat)) (x1 : ρ.i 1 = (y : Nat)) (xp : ρ.i 200 = (p : Nat)) (xb : ρ.v 4200 = tok db) (xk : ρ.v 8200 = tok dk)
    (q0 : e0.b 0 = true) (hG : e0.g gv = encG (endG G db dk B K)) : treeSem dp2S LQ (KF [] (.bool (.var 0)) e0 2) ρ dt0 := by
  unfold dt0
  have o1 := hE.sB.sl.one
  have o2 := hE.sK.sl.one
  obtain ⟨G1, hG1⟩ : ∃ x, x = kptG G db B.length := ⟨_, rfl⟩
  obtain ⟨G2, hG2⟩ : ∃ x, x = kptGI G1 dk K.length := ⟨_, rfl⟩
  have k1 : Keeps G G1 := by rw [hG1]; exact (kpt_keeps G db B.length).1
  have k2 : Keeps G1 G2 := by rw [hG2]; exact (kpt_keepsI G1 dk K.length).1
  have l1 : G.length ≤ G1.length := by rw [hG1]; exact (kpt_keeps G db B.length).2
  have l2 : G1.length ≤ G2.length := by rw [hG2]; exact (kpt_keepsI G1 dk K.length).2
  have t2 := (TStep.of_keeps hE.two k1 l1).trans (TStep.of_keeps (TStep.of_keeps hE.two k1 l1).two k2 l2)
  have hb2 := k2 _ _ (k1 _ _ hE.rb)
  have t3 := t2.two.setRow (o := .row 1 (B ++ mk5).length (marks (B ++ mk5).length)) hb2 hE.ne
  have e3 : endG G db dk B K = G2.set db (.row 1 (B ++ mk5).length (marks (B ++ mk5).length)) := by unfold endG; rw [← hG1, ← hG2]
  refine sem_step G [tokAt p 2] (Env.ofL [vB]) rfl (by show [tokAt (ρ.i 200).toNat 2, ρ.g 33199] = _; rw [xp, hg]; rfl) ⟨p, 2, _, vB, rfl, cells_ptr hE.op, rfl, oneOf_eq o1⟩ ?_
  refine sem_step G [tok db, vB] ((Env.ofL [.bool true]).ans (encG G1)) rfl (by show [oneOf (ρ.v 4200), oneOf vB, ρ.g 33199] = _; rw [xb, oneOf_eq o1, hg]; rfl) ⟨db, vB, B, rfl, hE.rb, hE.sB.sl, hE.lB, rfl, by rw [hG1]; rfl⟩ ?_
  refine sem_yes rfl ?_
  refine sem_step G1 [tokAt p 3] (Env.ofL [vK]) rfl (by show [tokAt (ρ.i 200).toNat 3, _] = _; rw [xp]; rfl) ⟨p, 3, _, vK, rfl, cells_ptr (k1 _ _ hE.op), rfl, oneOf_eq o2⟩ ?_
  refine sem_step G1 [tok dk, vK] ((Env.ofL [.bool true]).ans (encG G2)) rfl (by show [oneOf (ρ.v 8200), oneOf vK, _] = _; rw [xk, oneOf_eq o2]; rfl) ⟨dk, vK, K, rfl, k1 _ _ hE.rk, sl_keep k1 hE.sK.sl, hE.lK, rfl, by rw [hG2]; rfl⟩ ?_
  refine sem_step G2 [tok db] ((Env.ofL []).ans (encG (endG G db dk B K))) rfl (by show [oneOf (ρ.v 4200), _] = _; rw [xb]; rfl) ⟨tok db, (B ++ mk5).length, rfl, by have := hE.lB; rw [List.length_append]; show _ + 5 ≤ _; omega, .inr ⟨db, _, _, mut_row hb2 (by rw [List.length_map]), by rw [e3]; rfl⟩⟩ ?_
  refine sem_yes rfl ?_
  rw [e3] at hG ⊢
  refine sem_step _ [tokAt d 0] ((Env.ofL [.int .i64 M.done]).ans (encG _)) rfl (by show [tokAt (ρ.i 0).toNat 0, _] = _; rw [x0]; rfl) ⟨_, M, rfl, t3.dk, rfl, rfl⟩ ?_
  refine sem_step _ [tokAt y 0] ((Env.ofL [.int .i64 R.done]).ans (encG _)) rfl (by show [tokAt (ρ.i 1).toNat 0, _] = _; rw [x1]; rfl) ⟨_, R, rfl, t3.rf.at_, rfl, rfl⟩ ?_
  refine sem_yes (by show (M.done == R.done) = true; rw [hE.sm.done]; exact beq_self_eq_true _) ?_
  refine sem_step _ [tokAt d 0] ((Env.ofL [.bool M.off]).ans (encG _)) rfl (by show [tokAt (ρ.i 0).toNat 0, _] = _; rw [x0]; rfl) ⟨_, M, rfl, t3.dk, rfl, rfl⟩ ?_
  refine sem_step _ [tokAt y 0] ((Env.ofL [.bool R.off]).ans (encG _)) rfl (by show [tokAt (ρ.i 1).toNat 0, _] = _; rw [x1]; rfl) ⟨_, R, rfl, t3.rf.at_, rfl, rfl⟩ ?_
  exact sem_retG rfl (by show Value.bool (M.off == R.off) = Value.bool (e0.b 0); rw [q0, hE.sm.off, beq_self_eq_true]) trivial (by rw [hG]; rfl)
def dt1 : Tree :=
 (.call 24 42200 [(.pla (.var 200) (.lit 0) 2), (.var 35199)]
 (.call 2 43200 [(.hnd 4200), (.hnd 42200), (.var 35199)]
 (.split (.var 43200)
 (.call 25 48200 [(.pla (.var 200) (.lit 0) 3), (.var 44199)]
 (.call 3 49200 [(.hnd 8200), (.hnd 48200), (.var 44199)]
 (.call 4 53200 [(.hnd 4200), (.var 50199)]
 (.split (.var 49200)
 (.call 14 57200 [(.pla (.var 0) (.lit 0) 0), (.var 54199)]
 (.call 15 59200 [(.pla (.var 1) (.lit 0) 0), (.var 58199)]
 (.split (.cmp .eql (.var 57200) (.var 59200))
 (.call 16 64200 [(.pla (.var 0) (.lit 0) 0), (.var 60199)]
 (.call 17 66200 [(.pla (.var 1) (.lit 0) 0), (.var 65199)]
 (leafG (.bool (.iff (.var 64200) (.var 66200))) .nil 67199)))
 (leafG (.bool (.lit false)) .nil 60199))))
 (leafG (.bool (.lit false)) .nil 54199)))))
 (.call 4 53200 [(.hnd 4200), (.var 44199)]
 (leafG (.bool (.lit false)) .nil 54199)))))
theorem sem_dt1 {LQ : LoopS} {ρ : Env} {e0 : Env} {G0 G : List Ob} {d y p db dk : Nat} {M : DiskM} {R : RefM} {i kd : Int} {vB vK : Value} {B K : List Int} (hE : DoEnd G0 G d y p db dk M R kd i vB vK B K) (hg : ρ.g 35199 = encG G) (x0 : ρ.i 0 = (d : Nat)) (x1 : ρ.i 1 = (y : Nat)) (xp : ρ.i 200 = (p : Nat)) (xb : ρ.v 4200 = tok db) (xk : ρ.v 8200 = tok dk)
    (q0 : e0.b 0 = true) (hG : e0.g gv = encG (endG G db dk B K)) : treeSem dp2S LQ (KF [] (.bool (.var 0)) e0 2) ρ dt1 := by
  unfold dt1
  have o1 := hE.sB.sl.one
  have o2 := hE.sK.sl.one
  obtain ⟨G1, hG1⟩ : ∃ x, x = kptG G db B.length := ⟨_, rfl⟩
  obtain ⟨G2, hG2⟩ : ∃ x, x = kptGI G1 dk K.length := ⟨_, rfl⟩
  have k1 : Keeps G G1 := by rw [hG1]; exact (kpt_keeps G db B.length).1
  have k2 : Keeps G1 G2 := by rw [hG2]; exact (kpt_keepsI G1 dk K.length).1
  have l1 : G.length ≤ G1.length := by rw [hG1]; exact (kpt_keeps G db B.length).2
  have l2 : G1.length ≤ G2.length := by rw [hG2]; exact (kpt_keepsI G1 dk K.length).2
  have t2 := (TStep.of_keeps hE.two k1 l1).trans (TStep.of_keeps (TStep.of_keeps hE.two k1 l1).two k2 l2)
  have hb2 := k2 _ _ (k1 _ _ hE.rb)
  have t3 := t2.two.setRow (o := .row 1 (B ++ mk5).length (marks (B ++ mk5).length)) hb2 hE.ne
  have e3 : endG G db dk B K = G2.set db (.row 1 (B ++ mk5).length (marks (B ++ mk5).length)) := by unfold endG; rw [← hG1, ← hG2]
  refine sem_step G [tokAt p 2] (Env.ofL [vB]) rfl (by show [tokAt (ρ.i 200).toNat 2, ρ.g 35199] = _; rw [xp, hg]; rfl) ⟨p, 2, _, vB, rfl, cells_ptr hE.op, rfl, oneOf_eq o1⟩ ?_
  refine sem_step G [tok db, vB] ((Env.ofL [.bool true]).ans (encG G1)) rfl (by show [oneOf (ρ.v 4200), oneOf vB, ρ.g 35199] = _; rw [xb, oneOf_eq o1, hg]; rfl) ⟨db, vB, B, rfl, hE.rb, hE.sB.sl, hE.lB, rfl, by rw [hG1]; rfl⟩ ?_
  refine sem_yes rfl ?_
  refine sem_step G1 [tokAt p 3] (Env.ofL [vK]) rfl (by show [tokAt (ρ.i 200).toNat 3, _] = _; rw [xp]; rfl) ⟨p, 3, _, vK, rfl, cells_ptr (k1 _ _ hE.op), rfl, oneOf_eq o2⟩ ?_
  refine sem_step G1 [tok dk, vK] ((Env.ofL [.bool true]).ans (encG G2)) rfl (by show [oneOf (ρ.v 8200), oneOf vK, _] = _; rw [xk, oneOf_eq o2]; rfl) ⟨dk, vK, K, rfl, k1 _ _ hE.rk, sl_keep k1 hE.sK.sl, hE.lK, rfl, by rw [hG2]; rfl⟩ ?_
  refine sem_step G2 [tok db] ((Env.ofL []).ans (encG (endG G db dk B K))) rfl (by show [oneOf (ρ.v 4200), _] = _; rw [xb]; rfl) ⟨tok db, (B ++ mk5).length, rfl, by have := hE.lB; rw [List.length_append]; show _ + 5 ≤ _; omega, .inr ⟨db, _, _, mut_row hb2 (by rw [List.length_map]), by rw [e3]; rfl⟩⟩ ?_
  refine sem_yes rfl ?_
  rw [e3] at hG ⊢
  refine sem_step _ [tokAt d 0] ((Env.ofL [.int .i64 M.done]).ans (encG _)) rfl (by show [tokAt (ρ.i 0).toNat 0, _] = _; rw [x0]; rfl) ⟨_, M, rfl, t3.dk, rfl, rfl⟩ ?_
  refine sem_step _ [tokAt y 0] ((Env.ofL [.int .i64 R.done]).ans (encG _)) rfl (by show [tokAt (ρ.i 1).toNat 0, _] = _; rw [x1]; rfl) ⟨_, R, rfl, t3.rf.at_, rfl, rfl⟩ ?_
  refine sem_yes (by show (M.done == R.done) = true; rw [hE.sm.done]; exact beq_self_eq_true _) ?_
  refine sem_step _ [tokAt d 0] ((Env.ofL [.bool M.off]).ans (encG _)) rfl (by show [tokAt (ρ.i 0).toNat 0, _] = _; rw [x0]; rfl) ⟨_, M, rfl, t3.dk, rfl, rfl⟩ ?_
  refine sem_step _ [tokAt y 0] ((Env.ofL [.bool R.off]).ans (encG _)) rfl (by show [tokAt (ρ.i 1).toNat 0, _] = _; rw [x1]; rfl) ⟨_, R, rfl, t3.rf.at_, rfl, rfl⟩ ?_
  exact sem_retG rfl (by show Value.bool (M.off == R.off) = Value.bool (e0.b 0); rw [q0, hE.sm.off, beq_self_eq_true]) trivial (by rw [hG]; rfl)
def dt2 : Tree :=
 (.call 24 33200 [(.pla (.var 200) (.lit 0) 2), (.var 26199)]
 (.call 2 34200 [(.hnd 4200), (.hnd 33200), (.var 26199)]
 (.split (.var 34200)
 (.call 25 39200 [(.pla (.var 200) (.lit 0) 3), (.var 35199)]
 (.call 3 40200 [(.hnd 8200), (.hnd 39200), (.var 35199)]
 (.call 4 44200 [(.hnd 4200), (.var 41199)]
 (.split (.var 40200)
 (.call 14 48200 [(.pla (.var 0) (.lit 0) 0), (.var 45199)]
 (.call 15 50200 [(.pla (.var 1) (.lit 0) 0), (.var 49199)]
 (.split (.cmp .eql (.var 48200) (.var 50200))
 (.call 16 55200 [(.pla (.var 0) (.lit 0) 0), (.var 51199)]
 (.call 17 57200 [(.pla (.var 1) (.lit 0) 0), (.var 56199)]
 (leafG (.bool (.iff (.var 55200) (.var 57200))) .nil 58199)))
 (leafG (.bool (.lit false)) .nil 51199))))
 (leafG (.bool (.lit false)) .nil 45199)))))
 (.call 4 44200 [(.hnd 4200), (.var 35199)]
 (leafG (.bool (.lit false)) .nil 45199)))))
theorem sem_dt2 {LQ : LoopS} {ρ : Env} {e0 : Env} {G0 G : List Ob} {d y p db dk : Nat} {M : DiskM} {R : RefM} {i kd : Int} {vB vK : Value} {B K : List Int} (hE : DoEnd G0 G d y p db dk M R kd i vB vK B K) (hg : ρ.g 26199 = encG G) (x0 : ρ.i 0 = (d : Nat)) (x1 : ρ.i 1 = (y : Nat)) (xp : ρ.i 200 = (p : Nat)) (xb : ρ.v 4200 = tok db) (xk : ρ.v 8200 = tok dk)
    (q0 : e0.b 0 = true) (hG : e0.g gv = encG (endG G db dk B K)) : treeSem dp2S LQ (KF [] (.bool (.var 0)) e0 2) ρ dt2 := by
  unfold dt2
  have o1 := hE.sB.sl.one
  have o2 := hE.sK.sl.one
  obtain ⟨G1, hG1⟩ : ∃ x, x = kptG G db B.length := ⟨_, rfl⟩
  obtain ⟨G2, hG2⟩ : ∃ x, x = kptGI G1 dk K.length := ⟨_, rfl⟩
  have k1 : Keeps G G1 := by rw [hG1]; exact (kpt_keeps G db B.length).1
  have k2 : Keeps G1 G2 := by rw [hG2]; exact (kpt_keepsI G1 dk K.length).1
  have l1 : G.length ≤ G1.length := by rw [hG1]; exact (kpt_keeps G db B.length).2
  have l2 : G1.length ≤ G2.length := by rw [hG2]; exact (kpt_keepsI G1 dk K.length).2
  have t2 := (TStep.of_keeps hE.two k1 l1).trans (TStep.of_keeps (TStep.of_keeps hE.two k1 l1).two k2 l2)
  have hb2 := k2 _ _ (k1 _ _ hE.rb)
  have t3 := t2.two.setRow (o := .row 1 (B ++ mk5).length (marks (B ++ mk5).length)) hb2 hE.ne
  have e3 : endG G db dk B K = G2.set db (.row 1 (B ++ mk5).length (marks (B ++ mk5).length)) := by unfold endG; rw [← hG1, ← hG2]
  refine sem_step G [tokAt p 2] (Env.ofL [vB]) rfl (by show [tokAt (ρ.i 200).toNat 2, ρ.g 26199] = _; rw [xp, hg]; rfl) ⟨p, 2, _, vB, rfl, cells_ptr hE.op, rfl, oneOf_eq o1⟩ ?_
  refine sem_step G [tok db, vB] ((Env.ofL [.bool true]).ans (encG G1)) rfl (by show [oneOf (ρ.v 4200), oneOf vB, ρ.g 26199] = _; rw [xb, oneOf_eq o1, hg]; rfl) ⟨db, vB, B, rfl, hE.rb, hE.sB.sl, hE.lB, rfl, by rw [hG1]; rfl⟩ ?_
  refine sem_yes rfl ?_
  refine sem_step G1 [tokAt p 3] (Env.ofL [vK]) rfl (by show [tokAt (ρ.i 200).toNat 3, _] = _; rw [xp]; rfl) ⟨p, 3, _, vK, rfl, cells_ptr (k1 _ _ hE.op), rfl, oneOf_eq o2⟩ ?_
  refine sem_step G1 [tok dk, vK] ((Env.ofL [.bool true]).ans (encG G2)) rfl (by show [oneOf (ρ.v 8200), oneOf vK, _] = _; rw [xk, oneOf_eq o2]; rfl) ⟨dk, vK, K, rfl, k1 _ _ hE.rk, sl_keep k1 hE.sK.sl, hE.lK, rfl, by rw [hG2]; rfl⟩ ?_
  refine sem_step G2 [tok db] ((Env.ofL []).ans (encG (endG G db dk B K))) rfl (by show [oneOf (ρ.v 4200), _] = _; rw [xb]; rfl) ⟨tok db, (B ++ mk5).length, rfl, by have := hE.lB; rw [List.length_append]; show _ + 5 ≤ _; omega, .inr ⟨db, _, _, mut_row hb2 (by rw [List.length_map]), by rw [e3]; rfl⟩⟩ ?_
  refine sem_yes rfl ?_
  rw [e3] at hG ⊢
  refine sem_step _ [tokAt d 0] ((Env.ofL [.int .i64 M.done]).ans (encG _)) rfl (by show [tokAt (ρ.i 0).toNat 0, _] = _; rw [x0]; rfl) ⟨_, M, rfl, t3.dk, rfl, rfl⟩ ?_
  refine sem_step _ [tokAt y 0] ((Env.ofL [.int .i64 R.done]).ans (encG _)) rfl (by show [tokAt (ρ.i 1).toNat 0, _] = _; rw [x1]; rfl) ⟨_, R, rfl, t3.rf.at_, rfl, rfl⟩ ?_
  refine sem_yes (by show (M.done == R.done) = true; rw [hE.sm.done]; exact beq_self_eq_true _) ?_
  refine sem_step _ [tokAt d 0] ((Env.ofL [.bool M.off]).ans (encG _)) rfl (by show [tokAt (ρ.i 0).toNat 0, _] = _; rw [x0]; rfl) ⟨_, M, rfl, t3.dk, rfl, rfl⟩ ?_
  refine sem_step _ [tokAt y 0] ((Env.ofL [.bool R.off]).ans (encG _)) rfl (by show [tokAt (ρ.i 1).toNat 0, _] = _; rw [x1]; rfl) ⟨_, R, rfl, t3.rf.at_, rfl, rfl⟩ ?_
  exact sem_retG rfl (by show Value.bool (M.off == R.off) = Value.bool (e0.b 0); rw [q0, hE.sm.off, beq_self_eq_true]) trivial (by rw [hG]; rfl)
def dt3 : Tree :=
 (.call 24 37200 [(.pla (.var 200) (.lit 0) 2), (.var 31199)]
 (.call 2 38200 [(.hnd 4200), (.hnd 37200), (.var 31199)]
 (.split (.var 38200)
 (.call 25 43200 [(.pla (.var 200) (.lit 0) 3), (.var 39199)]
 (.call 3 44200 [(.hnd 8200), (.hnd 43200), (.var 39199)]
 (.call 4 48200 [(.hnd 4200), (.var 45199)]
 (.split (.var 44200)
 (.call 14 52200 [(.pla (.var 0) (.lit 0) 0), (.var 49199)]
 (.call 15 54200 [(.pla (.var 1) (.lit 0) 0), (.var 53199)]
 (.split (.cmp .eql (.var 52200) (.var 54200))
 (.call 16 59200 [(.pla (.var 0) (.lit 0) 0), (.var 55199)]
 (.call 17 61200 [(.pla (.var 1) (.lit 0) 0), (.var 60199)]
 (leafG (.bool (.iff (.var 59200) (.var 61200))) .nil 62199)))
 (leafG (.bool (.lit false)) .nil 55199))))
 (leafG (.bool (.lit false)) .nil 49199)))))
 (.call 4 48200 [(.hnd 4200), (.var 39199)]
 (leafG (.bool (.lit false)) .nil 49199)))))
theorem sem_dt3 {LQ : LoopS} {ρ : Env} {e0 : Env} {G0 G : List Ob} {d y p db dk : Nat} {M : DiskM} {R : RefM} {i kd : Int} {vB vK : Value} {B K : List Int} (hE : DoEnd G0 G d y p db dk M R kd i vB vK B K) (hg : ρ.g 31199 = encG G) (x0 : ρ.i 0 = (d : Nat)) (x1 : ρ.i 1 = (y : Nat)) (xp : ρ.i 200 = (p : Nat)) (xb : ρ.v 4200 = tok db) (xk : ρ.v 8200 = tok dk)
    (q0 : e0.b 0 = true) (hG : e0.g gv = encG (endG G db dk B K)) : treeSem dp2S LQ (KF [] (.bool (.var 0)) e0 2) ρ dt3 := by
  unfold dt3
  have o1 := hE.sB.sl.one
  have o2 := hE.sK.sl.one
  obtain ⟨G1, hG1⟩ : ∃ x, x = kptG G db B.length := ⟨_, rfl⟩
  obtain ⟨G2, hG2⟩ : ∃ x, x = kptGI G1 dk K.length := ⟨_, rfl⟩
  have k1 : Keeps G G1 := by rw [hG1]; exact (kpt_keeps G db B.length).1
  have k2 : Keeps G1 G2 := by rw [hG2]; exact (kpt_keepsI G1 dk K.length).1
  have l1 : G.length ≤ G1.length := by rw [hG1]; exact (kpt_keeps G db B.length).2
  have l2 : G1.length ≤ G2.length := by rw [hG2]; exact (kpt_keepsI G1 dk K.length).2
  have t2 := (TStep.of_keeps hE.two k1 l1).trans (TStep.of_keeps (TStep.of_keeps hE.two k1 l1).two k2 l2)
  have hb2 := k2 _ _ (k1 _ _ hE.rb)
  have t3 := t2.two.setRow (o := .row 1 (B ++ mk5).length (marks (B ++ mk5).length)) hb2 hE.ne
  have e3 : endG G db dk B K = G2.set db (.row 1 (B ++ mk5).length (marks (B ++ mk5).length)) := by unfold endG; rw [← hG1, ← hG2]
  refine sem_step G [tokAt p 2] (Env.ofL [vB]) rfl (by show [tokAt (ρ.i 200).toNat 2, ρ.g 31199] = _; rw [xp, hg]; rfl) ⟨p, 2, _, vB, rfl, cells_ptr hE.op, rfl, oneOf_eq o1⟩ ?_
  refine sem_step G [tok db, vB] ((Env.ofL [.bool true]).ans (encG G1)) rfl (by show [oneOf (ρ.v 4200), oneOf vB, ρ.g 31199] = _; rw [xb, oneOf_eq o1, hg]; rfl) ⟨db, vB, B, rfl, hE.rb, hE.sB.sl, hE.lB, rfl, by rw [hG1]; rfl⟩ ?_
  refine sem_yes rfl ?_
  refine sem_step G1 [tokAt p 3] (Env.ofL [vK]) rfl (by show [tokAt (ρ.i 200).toNat 3, _] = _; rw [xp]; rfl) ⟨p, 3, _, vK, rfl, cells_ptr (k1 _ _ hE.op), rfl, oneOf_eq o2⟩ ?_
  refine sem_step G1 [tok dk, vK] ((Env.ofL [.bool true]).ans (encG G2)) rfl (by show [oneOf (ρ.v 8200), oneOf vK, _] = _; rw [xk, oneOf_eq o2]; rfl) ⟨dk, vK, K, rfl, k1 _ _ hE.rk, sl_keep k1 hE.sK.sl, hE.lK, rfl, by rw [hG2]; rfl⟩ ?_
  refine sem_step G2 [tok db] ((Env.ofL []).ans (encG (endG G db dk B K))) rfl (by show [oneOf (ρ.v 4200), _] = _; rw [xb]; rfl) ⟨tok db, (B ++ mk5).length, rfl, by have := hE.lB; rw [List.length_append]; show _ + 5 ≤ _; omega, .inr ⟨db, _, _, mut_row hb2 (by rw [List.length_map]), by rw [e3]; rfl⟩⟩ ?_
  refine sem_yes rfl ?_
  rw [e3] at hG ⊢
  refine sem_step _ [tokAt d 0] ((Env.ofL [.int .i64 M.done]).ans (encG _)) rfl (by show [tokAt (ρ.i 0).toNat 0, _] = _; rw [x0]; rfl) ⟨_, M, rfl, t3.dk, rfl, rfl⟩ ?_
  refine sem_step _ [tokAt y 0] ((Env.ofL [.int .i64 R.done]).ans (encG _)) rfl (by show [tokAt (ρ.i 1).toNat 0, _] = _; rw [x1]; rfl) ⟨_, R, rfl, t3.rf.at_, rfl, rfl⟩ ?_
  refine sem_yes (by show (M.done == R.done) = true; rw [hE.sm.done]; exact beq_self_eq_true _) ?_
  refine sem_step _ [tokAt d 0] ((Env.ofL [.bool M.off]).ans (encG _)) rfl (by show [tokAt (ρ.i 0).toNat 0, _] = _; rw [x0]; rfl) ⟨_, M, rfl, t3.dk, rfl, rfl⟩ ?_
  refine sem_step _ [tokAt y 0] ((Env.ofL [.bool R.off]).ans (encG _)) rfl (by show [tokAt (ρ.i 1).toNat 0, _] = _; rw [x1]; rfl) ⟨_, R, rfl, t3.rf.at_, rfl, rfl⟩ ?_
  exact sem_retG rfl (by show Value.bool (M.off == R.off) = Value.bool (e0.b 0); rw [q0, hE.sm.off, beq_self_eq_true]) trivial (by rw [hG]; rfl)
def dt4 : Tree :=
 (.call 24 42200 [(.pla (.var 200) (.lit 0) 2), (.var 36199)]
 (.call 2 43200 [(.hnd 4200), (.hnd 42200), (.var 36199)]
 (.split (.var 43200)
 (.call 25 48200 [(.pla (.var 200) (.lit 0) 3), (.var 44199)]
 (.call 3 49200 [(.hnd 8200), (.hnd 48200), (.var 44199)]
 (.call 4 53200 [(.hnd 4200), (.var 50199)]
 (.split (.var 49200)
 (.call 14 57200 [(.pla (.var 0) (.lit 0) 0), (.var 54199)]
 (.call 15 59200 [(.pla (.var 1) (.lit 0) 0), (.var 58199)]
 (.split (.cmp .eql (.var 57200) (.var 59200))
 (.call 16 64200 [(.pla (.var 0) (.lit 0) 0), (.var 60199)]
 (.call 17 66200 [(.pla (.var 1) (.lit 0) 0), (.var 65199)]
 (leafG (.bool (.iff (.var 64200) (.var 66200))) .nil 67199)))
 (leafG (.bool (.lit false)) .nil 60199))))
 (leafG (.bool (.lit false)) .nil 54199)))))
 (.call 4 53200 [(.hnd 4200), (.var 44199)]
 (leafG (.bool (.lit false)) .nil 54199)))))
theorem sem_dt4 {LQ : LoopS} {ρ : Env} {e0 : Env} {G0 G : List Ob} {d y p db dk : Nat} {M : DiskM} {R : RefM} {i kd : Int} {vB vK : Value} {B K : List Int} (hE : DoEnd G0 G d y p db dk M R kd i vB vK B K) (hg : ρ.g 36199 = encG G) (x0 : ρ.i 0 = (d : Nat)) (x1 : ρ.i 1 = (y : Nat)) (xp : ρ.i 200 = (p : Nat)) (xb : ρ.v 4200 = tok db) (xk : ρ.v 8200 = tok dk)
    (q0 : e0.b 0 = true) (hG : e0.g gv = encG (endG G db dk B K)) : treeSem dp2S LQ (KF [] (.bool (.var 0)) e0 2) ρ dt4 := by
  unfold dt4
  have o1 := hE.sB.sl.one
  have o2 := hE.sK.sl.one
  obtain ⟨G1, hG1⟩ : ∃ x, x = kptG G db B.length := ⟨_, rfl⟩
  obtain ⟨G2, hG2⟩ : ∃ x, x = kptGI G1 dk K.length := ⟨_, rfl⟩
  have k1 : Keeps G G1 := by rw [hG1]; exact (kpt_keeps G db B.length).1
  have k2 : Keeps G1 G2 := by rw [hG2]; exact (kpt_keepsI G1 dk K.length).1
  have l1 : G.length ≤ G1.length := by rw [hG1]; exact (kpt_keeps G db B.length).2
  have l2 : G1.length ≤ G2.length := by rw [hG2]; exact (kpt_keepsI G1 dk K.length).2
  have t2 := (TStep.of_keeps hE.two k1 l1).trans (TStep.of_keeps (TStep.of_keeps hE.two k1 l1).two k2 l2)
  have hb2 := k2 _ _ (k1 _ _ hE.rb)
  have t3 := t2.two.setRow (o := .row 1 (B ++ mk5).length (marks (B ++ mk5).length)) hb2 hE.ne
  have e3 : endG G db dk B K = G2.set db (.row 1 (B ++ mk5).length (marks (B ++ mk5).length)) := by unfold endG; rw [← hG1, ← hG2]
  refine sem_step G [tokAt p 2] (Env.ofL [vB]) rfl (by show [tokAt (ρ.i 200).toNat 2, ρ.g 36199] = _; rw [xp, hg]; rfl) ⟨p, 2, _, vB, rfl, cells_ptr hE.op, rfl, oneOf_eq o1⟩ ?_
  refine sem_step G [tok db, vB] ((Env.ofL [.bool true]).ans (encG G1)) rfl (by show [oneOf (ρ.v 4200), oneOf vB, ρ.g 36199] = _; rw [xb, oneOf_eq o1, hg]; rfl) ⟨db, vB, B, rfl, hE.rb, hE.sB.sl, hE.lB, rfl, by rw [hG1]; rfl⟩ ?_
  refine sem_yes rfl ?_
  refine sem_step G1 [tokAt p 3] (Env.ofL [vK]) rfl (by show [tokAt (ρ.i 200).toNat 3, _] = _; rw [xp]; rfl) ⟨p, 3, _, vK, rfl, cells_ptr (k1 _ _ hE.op), rfl, oneOf_eq o2⟩ ?_
  refine sem_step G1 [tok dk, vK] ((Env.ofL [.bool true]).ans (encG G2)) rfl (by show [oneOf (ρ.v 8200), oneOf vK, _] = _; rw [xk, oneOf_eq o2]; rfl) ⟨dk, vK, K, rfl, k1 _ _ hE.rk, sl_keep k1 hE.sK.sl, hE.lK, rfl, by rw [hG2]; rfl⟩ ?_
  refine sem_step G2 [tok db] ((Env.ofL []).ans (encG (endG G db dk B K))) rfl (by show [oneOf (ρ.v 4200), _] = _; rw [xb]; rfl) ⟨tok db, (B ++ mk5).length, rfl, by have := hE.lB; rw [List.length_append]; show _ + 5 ≤ _; omega, .inr ⟨db, _, _, mut_row hb2 (by rw [List.length_map]), by rw [e3]; rfl⟩⟩ ?_
  refine sem_yes rfl ?_
  rw [e3] at hG ⊢
  refine sem_step _ [tokAt d 0] ((Env.ofL [.int .i64 M.done]).ans (encG _)) rfl (by show [tokAt (ρ.i 0).toNat 0, _] = _; rw [x0]; rfl) ⟨_, M, rfl, t3.dk, rfl, rfl⟩ ?_
  refine sem_step _ [tokAt y 0] ((Env.ofL [.int .i64 R.done]).ans (encG _)) rfl (by show [tokAt (ρ.i 1).toNat 0, _] = _; rw [x1]; rfl) ⟨_, R, rfl, t3.rf.at_, rfl, rfl⟩ ?_
  refine sem_yes (by show (M.done == R.done) = true; rw [hE.sm.done]; exact beq_self_eq_true _) ?_
  refine sem_step _ [tokAt d 0] ((Env.ofL [.bool M.off]).ans (encG _)) rfl (by show [tokAt (ρ.i 0).toNat 0, _] = _; rw [x0]; rfl) ⟨_, M, rfl, t3.dk, rfl, rfl⟩ ?_
  refine sem_step _ [tokAt y 0] ((Env.ofL [.bool R.off]).ans (encG _)) rfl (by show [tokAt (ρ.i 1).toNat 0, _] = _; rw [x1]; rfl) ⟨_, R, rfl, t3.rf.at_, rfl, rfl⟩ ?_
  exact sem_retG rfl (by show Value.bool (M.off == R.off) = Value.bool (e0.b 0); rw [q0, hE.sm.off, beq_self_eq_true]) trivial (by rw [hG]; rfl)
def dt5 : Tree :=
 (.call 24 31200 [(.pla (.var 200) (.lit 0) 2), (.var 9199)]
 (.call 2 32200 [(.hnd 4200), (.hnd 31200), (.var 9199)]
 (.split (.var 32200)
 (.call 25 37200 [(.pla (.var 200) (.lit 0) 3), (.var 33199)]
 (.call 3 38200 [(.hnd 8200), (.hnd 37200), (.var 33199)]
 (.call 4 42200 [(.hnd 4200), (.var 39199)]
 (.split (.var 38200)
 (.call 14 46200 [(.pla (.var 0) (.lit 0) 0), (.var 43199)]
 (.call 15 48200 [(.pla (.var 1) (.lit 0) 0), (.var 47199)]
 (.split (.cmp .eql (.var 46200) (.var 48200))
 (.call 16 53200 [(.pla (.var 0) (.lit 0) 0), (.var 49199)]
 (.call 17 55200 [(.pla (.var 1) (.lit 0) 0), (.var 54199)]
 (leafG (.bool (.iff (.var 53200) (.var 55200))) .nil 56199)))
 (leafG (.bool (.lit false)) .nil 49199))))
 (leafG (.bool (.lit false)) .nil 43199)))))
 (.call 4 42200 [(.hnd 4200), (.var 33199)]
 (leafG (.bool (.lit false)) .nil 43199)))))
theorem sem_dt5 {LQ : LoopS} {ρ : Env} {e0 : Env} {G0 G : List Ob} {d y p db dk : Nat} {M : DiskM} {R : RefM} {i kd : Int} {vB vK : Value} {B K : List Int} (hE : DoEnd G0 G d y p db dk M R kd i vB vK B K) (hg : ρ.g 9199 = encG G) (x0 : ρ.i 0 = (d : Nat)) (x1 : ρ.i 1 = (y : Nat)) (xp : ρ.i 200 = (p : Nat)) (xb : ρ.v 4200 = tok db) (xk : ρ.v 8200 = tok dk)
    (q0 : e0.b 0 = true) (hG : e0.g gv = encG (endG G db dk B K)) : treeSem dp2S LQ (KF [] (.bool (.var 0)) e0 2) ρ dt5 := by
  unfold dt5
  have o1 := hE.sB.sl.one
  have o2 := hE.sK.sl.one
  obtain ⟨G1, hG1⟩ : ∃ x, x = kptG G db B.length := ⟨_, rfl⟩
  obtain ⟨G2, hG2⟩ : ∃ x, x = kptGI G1 dk K.length := ⟨_, rfl⟩
  have k1 : Keeps G G1 := by rw [hG1]; exact (kpt_keeps G db B.length).1
  have k2 : Keeps G1 G2 := by rw [hG2]; exact (kpt_keepsI G1 dk K.length).1
  have l1 : G.length ≤ G1.length := by rw [hG1]; exact (kpt_keeps G db B.length).2
  have l2 : G1.length ≤ G2.length := by rw [hG2]; exact (kpt_keepsI G1 dk K.length).2
  have t2 := (TStep.of_keeps hE.two k1 l1).trans (TStep.of_keeps (TStep.of_keeps hE.two k1 l1).two k2 l2)
  have hb2 := k2 _ _ (k1 _ _ hE.rb)
  have t3 := t2.two.setRow (o := .row 1 (B ++ mk5).length (marks (B ++ mk5).length)) hb2 hE.ne
  have e3 : endG G db dk B K = G2.set db (.row 1 (B ++ mk5).length (marks (B ++ mk5).length)) := by unfold endG; rw [← hG1, ← hG2]
  refine sem_step G [tokAt p 2] (Env.ofL [vB]) rfl (by show [tokAt (ρ.i 200).toNat 2, ρ.g 9199] = _; rw [xp, hg]; rfl) ⟨p, 2, _, vB, rfl, cells_ptr hE.op, rfl, oneOf_eq o1⟩ ?_
  refine sem_step G [tok db, vB] ((Env.ofL [.bool true]).ans (encG G1)) rfl (by show [oneOf (ρ.v 4200), oneOf vB, ρ.g 9199] = _; rw [xb, oneOf_eq o1, hg]; rfl) ⟨db, vB, B, rfl, hE.rb, hE.sB.sl, hE.lB, rfl, by rw [hG1]; rfl⟩ ?_
  refine sem_yes rfl ?_
  refine sem_step G1 [tokAt p 3] (Env.ofL [vK]) rfl (by show [tokAt (ρ.i 200).toNat 3, _] = _; rw [xp]; rfl) ⟨p, 3, _, vK, rfl, cells_ptr (k1 _ _ hE.op), rfl, oneOf_eq o2⟩ ?_
  refine sem_step G1 [tok dk, vK] ((Env.ofL [.bool true]).ans (encG G2)) rfl (by show [oneOf (ρ.v 8200), oneOf vK, _] = _; rw [xk, oneOf_eq o2]; rfl) ⟨dk, vK, K, rfl, k1 _ _ hE.rk, sl_keep k1 hE.sK.sl, hE.lK, rfl, by rw [hG2]; rfl⟩ ?_
  refine sem_step G2 [tok db] ((Env.ofL []).ans (encG (endG G db dk B K))) rfl (by show [oneOf (ρ.v 4200), _] = _; rw [xb]; rfl) ⟨tok db, (B ++ mk5).length, rfl, by have := hE.lB; rw [List.length_append]; show _ + 5 ≤ _; omega, .inr ⟨db, _, _, mut_row hb2 (by rw [List.length_map]), by rw [e3]; rfl⟩⟩ ?_
  refine sem_yes rfl ?_
  rw [e3] at hG ⊢
  refine sem_step _ [tokAt d 0] ((Env.ofL [.int .i64 M.done]).ans (encG _)) rfl (by show [tokAt (ρ.i 0).toNat 0, _] = _; rw [x0]; rfl) ⟨_, M, rfl, t3.dk, rfl, rfl⟩ ?_
  refine sem_step _ [tokAt y 0] ((Env.ofL [.int .i64 R.done]).ans (encG _)) rfl (by show [tokAt (ρ.i 1).toNat 0, _] = _; rw [x1]; rfl) ⟨_, R, rfl, t3.rf.at_, rfl, rfl⟩ ?_
  refine sem_yes (by show (M.done == R.done) = true; rw [hE.sm.done]; exact beq_self_eq_true _) ?_
  refine sem_step _ [tokAt d 0] ((Env.ofL [.bool M.off]).ans (encG _)) rfl (by show [tokAt (ρ.i 0).toNat 0, _] = _; rw [x0]; rfl) ⟨_, M, rfl, t3.dk, rfl, rfl⟩ ?_
  refine sem_step _ [tokAt y 0] ((Env.ofL [.bool R.off]).ans (encG _)) rfl (by show [tokAt (ρ.i 1).toNat 0, _] = _; rw [x1]; rfl) ⟨_, R, rfl, t3.rf.at_, rfl, rfl⟩ ?_
  exact sem_retG rfl (by show Value.bool (M.off == R.off) = Value.bool (e0.b 0); rw [q0, hE.sm.off, beq_self_eq_true]) trivial (by rw [hG]; rfl)
def treeDoes : Tree :=
 (.call 22 200 [(.agg ([(.int .i64 (.var 2)), (.int .i64 (.var 3)), (.hnd 4), (.hnd 5)])), (.var 199)]
 (.call 24 3200 [(.pla (.var 200) (.lit 0) 2), (.var 1199)]
 (.call 0 4200 [(.hnd 3200), (.var 1199)]
 (.call 25 7200 [(.pla (.var 200) (.lit 0) 3), (.var 5199)]
 (.call 1 8200 [(.hnd 7200), (.var 5199)]
 (.call 23 13200 [(.pla (.var 200) (.lit 0) 0), (.var 9199)]
 (.call 5 14200 [(.int .i64 (.var 13200)), (.int .i64 (.lit 5))]
 (.split (.cmp .eql (.var 14200) (.lit 0))
 (.call 23 19200 [(.pla (.var 200) (.lit 0) 1), (.var 9199)]
 (.call 24 22200 [(.pla (.var 200) (.lit 0) 2), (.var 9199)]
 (.call 18 23200 [(.hnd 22200), (.var 9199)]
 (.call 20 24200 [(.hnd 4200), (.int .i64 (.var 23200)), (.var 9199)]
 (.call 6 25200 [(.pla (.var 0) (.lit 0) 0), (.int .i64 (.var 19200)), (.hnd 24200), (.var 25199)]
 (.call 23 29200 [(.pla (.var 200) (.lit 0) 1), (.var 26199)]
 (.call 24 31200 [(.pla (.var 200) (.lit 0) 2), (.var 26199)]
 (.call 7 32200 [(.pla (.var 1) (.lit 0) 0), (.int .i64 (.var 29200)), (.hnd 31200), (.var 26199)]
 (.split (.cmp .eql (.var 25200) (.var 32200))
 dt0
 (.call 4 51200 [(.hnd 4200), (.var 33199)]
 (leafG (.bool (.lit false)) .nil 52199)))))))))))
 (.split (.cmp .eql (.var 14200) (.lit 1))
 (.call 23 21200 [(.pla (.var 200) (.lit 0) 1), (.var 9199)]
 (.call 24 24200 [(.pla (.var 200) (.lit 0) 2), (.var 9199)]
 (.call 18 25200 [(.hnd 24200), (.var 9199)]
 (.call 20 26200 [(.hnd 4200), (.int .i64 (.var 25200)), (.var 9199)]
 (.call 6 27200 [(.pla (.var 0) (.lit 0) 0), (.int .i64 (.var 21200)), (.hnd 26200), (.var 27199)]
 (.call 23 31200 [(.pla (.var 200) (.lit 0) 1), (.var 28199)]
 (.call 24 33200 [(.pla (.var 200) (.lit 0) 2), (.var 28199)]
 (.call 7 34200 [(.pla (.var 1) (.lit 0) 0), (.int .i64 (.var 31200)), (.hnd 33200), (.var 28199)]
 (.split (.cmp .eql (.var 27200) (.var 34200))
 dt1
 (.call 4 53200 [(.hnd 4200), (.var 35199)]
 (leafG (.bool (.lit false)) .nil 54199)))))))))))
 (.split (.cmp .eql (.var 14200) (.lit 2))
 (.call 8 22200 [(.pla (.var 0) (.lit 0) 0), (.var 9199)]
 (.call 9 25200 [(.pla (.var 1) (.lit 0) 0), (.var 23199)]
 (.split (.cmp .eql (.var 22200) (.var 25200))
 dt2
 (.call 4 44200 [(.hnd 4200), (.var 26199)]
 (leafG (.bool (.lit false)) .nil 45199)))))
 (.split (.cmp .eql (.var 14200) (.lit 3))
 (.call 23 25200 [(.pla (.var 200) (.lit 0) 1), (.var 9199)]
 (.call 10 26200 [(.pla (.var 0) (.lit 0) 0), (.int .i64 (.var 25200)), (.var 9199)]
 (.call 23 29200 [(.pla (.var 200) (.lit 0) 1), (.var 27199)]
 (.call 11 30200 [(.pla (.var 1) (.lit 0) 0), (.int .i64 (.var 29200)), (.var 27199)]
 dt3))))
 (.split (.cmp .eql (.var 14200) (.lit 4))
 (.call 25 28200 [(.pla (.var 200) (.lit 0) 3), (.var 9199)]
 (.call 19 29200 [(.hnd 28200), (.var 9199)]
 (.call 21 30200 [(.hnd 8200), (.int .i64 (.var 29200)), (.var 9199)]
 (.call 12 31200 [(.pla (.var 0) (.lit 0) 0), (.hnd 30200), (.var 31199)]
 (.call 25 34200 [(.pla (.var 200) (.lit 0) 3), (.var 32199)]
 (.call 13 35200 [(.pla (.var 1) (.lit 0) 0), (.hnd 34200), (.var 32199)]
 dt4))))))
 dt5))))))))))))
theorem view_slk {G : List Ob} {v db n m : Nat} {cells xs : List Value} (hv : G[v]? = some (.view db 1 0 n)) (hb : G[db]? = some (.row 1 m cells)) (hlt : db < v) (hn : n ≤ cells.length) (hx : cells.take n = xs) : SlK G (tok v) 1 n xs := fun G' hk => by
  have h1 := hk _ _ hv (fun c e => by cases e) (fun c e => by cases e)
  have h2 := hk _ _ hb (fun c e => by cases e) (fun c e => by cases e)
  exact .inr ⟨db, 0, cells, ⟨v, rfl, .inr ⟨h1, hlt⟩⟩, by unfold cellsAt; rw [h2]; rfl, by omega, by rw [List.drop_zero, Nat.mul_one, hx]⟩
/-- What does leaves: the store, and both disks. -/
def doP (G : List Ob) (kd i : Int) (vB vK : Value) : List Ob := G ++ [.ptr (opV kd i vB vK)]
def doA (G : List Ob) (kd i : Int) (vB vK : Value) (B : List Int) : List Ob := cpG (doP G kd i vB vK) (B ++ mk5)
def doB (G : List Ob) (kd i : Int) (vB vK : Value) (B K : List Int) : List Ob := cpGI (doA G kd i vB vK B) (K ++ mk5I)
def doDb (G : List Ob) (kd i : Int) (vB vK : Value) (B : List Int) : Nat := tokN (cpV (doP G kd i vB vK) (B ++ mk5))
def doDk (G : List Ob) (kd i : Int) (vB vK : Value) (B K : List Int) : Nat := tokN (cpVI (doA G kd i vB vK B) (K ++ mk5I))
def doS (Gb : List Ob) (d y : Nat) (M : DiskM) (R : RefM) (f i : Int) (db dk : Nat) (B K : List Int) : List Ob × DiskM × RefM :=
  if f = 0 ∨ f = 1 then (rwG (wrG (Gb ++ [.view db 1 0 B.length]) d M i B) y R i B, wrM M i B, rwM (wrG (Gb ++ [.view db 1 0 B.length]) d M i B) y R i B)
  else if f = 2 then (rsyG (sycG Gb d M) y R, sycM M Gb.length, rsyM R)
  else if f = 3 then ((armG Gb d M i).set y (.ptr (rarM R i).cells), armM M i, rarM R i)
  else (rcrG (crash (Gb ++ [.view dk 1 0 K.length]) d M K).1 y R K, (crash (Gb ++ [.view dk 1 0 K.length]) d M K).2, rcrM R K)
def doS' (G : List Ob) (d y : Nat) (M : DiskM) (R : RefM) (kd i : Int) (vB vK : Value) (B K : List Int) : List Ob × DiskM × RefM :=
  doS (doB G kd i vB vK B K) d y M R (pickI kd 5) i (doDb G kd i vB vK B) (doDk G kd i vB vK B K) B K
def doG (G : List Ob) (d y : Nat) (M : DiskM) (R : RefM) (kd i : Int) (vB vK : Value) (B K : List Int) : List Ob :=
  endG (doS' G d y M R kd i vB vK B K).1 (doDb G kd i vB vK B) (doDk G kd i vB vK B K) B K
section
variable {G Gb : List Ob} {d y db dk : Nat} {M : DiskM} {R : RefM} {kd i : Int} {vB vK : Value} {B K : List Int}
theorem cpVI_tok (G : List Ob) {bs : List Int} (h : bs ≠ []) : ∃ d, cpVI G bs = tok d ∧ G.length ≤ d ∧ (cpGI G bs)[d]? = some (.row 1 bs.length (bs.map (Value.int .i64))) := by
  have hat := cp_atI G bs
  rcases hat.dst with ⟨_, h1, _⟩ | ⟨d, hd, h1⟩
  · exact absurd (List.eq_nil_of_length_eq_zero h1) h
  · exact ⟨d, hd, hat.new d hd, h1⟩
/-- What stands ahead of the call of both. -/
structure DoAt (G Gb : List Ob) (d y db dk : Nat) (M : DiskM) (R : RefM) (kd i : Int) (vB vK : Value) (B K : List Int) : Prop where
  st : TStep d y M R G M R Gb
  kp : Keeps G Gb
  op : Gb[G.length]? = some (.ptr (opV kd i vB vK))
  rb : Gb[db]? = some (.row 1 (B ++ mk5).length ((B ++ mk5).map (Value.int .u8)))
  rk : Gb[dk]? = some (.row 1 (K ++ mk5I).length ((K ++ mk5I).map (Value.int .i64)))
  lo : G.length ≤ db
theorem do_at (hT : Two G d y M R) (kd i : Int) (vB vK : Value) (B K : List Int) : DoAt G (doB G kd i vB vK B K) d y (doDb G kd i vB vK B) (doDk G kd i vB vK B K) M R kd i vB vK B K ∧
    cpV (doP G kd i vB vK) (B ++ mk5) = tok (doDb G kd i vB vK B) ∧ cpVI (doA G kd i vB vK B) (K ++ mk5I) = tok (doDk G kd i vB vK B K) := by
  have hp : Keeps G (doP G kd i vB vK) := Keeps.append _ _
  have lp : (doP G kd i vB vK).length = G.length + 1 := by simp [doP]
  have ha := cp_at (doP G kd i vB vK) (B ++ mk5)
  have hb := cp_atI (doA G kd i vB vK B) (K ++ mk5I)
  obtain ⟨n, hn, hnl, hnr⟩ := cpV_tok (doP G kd i vB vK) (bs := B ++ mk5) (by simp [mk5])
  obtain ⟨m, hm, hml, hmr⟩ := cpVI_tok (doA G kd i vB vK B) (bs := K ++ mk5I) (by simp [mk5I])
  have en : doDb G kd i vB vK B = n := by unfold doDb; rw [hn]; rfl
  have em : doDk G kd i vB vK B K = m := by unfold doDk; rw [hm]; rfl
  rw [en, em]
  have kb : Keeps (doP G kd i vB vK) (doB G kd i vB vK B K) := fun n o ho => hb.keep n o (ha.keep n o ho)
  have kk : Keeps G (doB G kd i vB vK B K) := fun n o ho => kb n o (hp n o ho)
  have l1 : (doP G kd i vB vK).length ≤ (doA G kd i vB vK B).length := ha.len
  have l2 : (doA G kd i vB vK B).length ≤ (doB G kd i vB vK B K).length := hb.len
  refine ⟨⟨TStep.of_keeps hT kk (by omega), kk, kb _ _ ?_, hb.keep _ _ hnr, hmr, by omega⟩, hn, hm⟩
  unfold doP
  rw [List.getElem?_append_right (Nat.le_refl _), Nat.sub_self]
  rfl
theorem Two.lt (h : Two G d y M R) : d < G.length ∧ M.m1 < G.length ∧ M.m2 < G.length ∧ y < G.length :=
  ⟨(List.getElem?_eq_some_iff.1 h.dk.ob).1, (List.getElem?_eq_some_iff.1 h.dk.ma).1, (List.getElem?_eq_some_iff.1 h.dk.mo).1, (List.getElem?_eq_some_iff.1 h.rf.at_).1⟩
theorem do_end (hT : Two G d y M R) (hA : DoAt G Gb d y db dk M R kd i vB vK B K) {M' : DiskM} {R' : RefM} {Ge : List Ob} (t : TStep d y M R Gb M' R' Ge) (sm : Same M' R') (sB : SlK G vB 1 B.length (u8s B)) (sK : SlK G vK 1 K.length (K.map (Value.int .i64))) (lB : B.length ≤ 900000) (lK : K.length ≤ 900000) :
    DoEnd G Ge d y G.length db dk M' R' kd i vB vK B K := by
  obtain ⟨a, b, c, e⟩ := hT.lt
  have rv := t.rv hA.st.two
  have rvG : KeepRV G Ge := (keepRV_of hA.kp).trans rv
  exact ⟨t.two, sm, t.fr.2 _ _ hA.op (by omega) (by omega) (by omega) (by omega), rv _ _ hA.rb (fun c e => by cases e) (fun c e => by cases e), rv _ _ hA.rk (fun c e => by cases e) (fun c e => by cases e), sB.keep rvG, sK.keep rvG, lB, lK,
    t.ne db (List.getElem?_eq_some_iff.1 hA.rb).1 (hT.ne_new hA.lo)⟩
theorem Two.step (hT : Two G d y M R) {M' : DiskM} {R' : RefM} {Gc Gd Ge : List Ob} (hk : Keeps G Gc) (hl : G.length ≤ Gc.length) (hd : ∀ _ : IsDisk Gc d M, DStep d M Gc M' Gd) (hr : ∀ _ : Two Gd d y M' R, TStep d y M' R Gd M' R' Ge) : TStep d y M R G M' R' Ge := by
  have t1 := TStep.of_keeps hT hk hl
  have t2 := TStep.disk t1.two (hd t1.two.dk)
  exact t1.trans (t2.trans (hr t2.two))
theorem do_step (hT : Two Gb d y M R) (hS : Same M R) (f : Int) (hi : i < 9223372036854775808) : TStep d y M R Gb (doS Gb d y M R f i db dk B K).2.1 (doS Gb d y M R f i db dk B K).2.2 (doS Gb d y M R f i db dk B K).1 ∧ Same (doS Gb d y M R f i db dk B K).2.1 (doS Gb d y M R f i db dk B K).2.2 := by
  unfold doS
  split
  · exact ⟨hT.step (Keeps.append _ _) (by simp) (fun h => wr_step h i B) (fun h => rw_step h i B), (same_wr hS hT.dk.rng _ y i B).2⟩
  split
  · exact ⟨hT.step keeps_refl (Nat.le_refl _) (fun h => syc_step h) (fun h => rsy_step h), (same_syc hS hT.dk.rng hT.dk.nd _).2⟩
  split
  · exact ⟨hT.step keeps_refl (Nat.le_refl _) (fun h => arm_step h hi) (fun h => rar_step h i), same_arm hS i⟩
  · have hd : IsDisk (Gb ++ [.view dk 1 0 K.length]) d M := hT.dk.keeps (Keeps.append _ _)
    exact ⟨hT.step (Keeps.append _ _) (by simp) (fun h => cra_step h K) (fun h => rcr_step h K), same_cra hS hd K⟩
/-- Behind does. -/
theorem do_done {Ge : List Ob} {M' : DiskM} {R' : RefM} (hA : DoAt G Gb d y db dk M R kd i vB vK B K) (hE : DoEnd G Ge d y G.length db dk M' R' kd i vB vK B K) (st : TStep d y M R G M' R' Ge) : TStep d y M R G M' R' (endG Ge db dk B K) := by
  have k1 := (kpt_keeps Ge db B.length)
  have k2 := (kpt_keepsI (kptG Ge db B.length) dk K.length)
  have t2 := (TStep.of_keeps hE.two k1.1 k1.2).trans (TStep.of_keeps (TStep.of_keeps hE.two k1.1 k1.2).two k2.1 k2.2)
  have t3 := t2.two.setRow (o := .row 1 (B ++ mk5).length (marks (B ++ mk5).length)) (k2.1 _ _ (k1.1 _ _ hE.rb)) hE.ne
  have t := st.trans t2
  refine ⟨t3, ⟨by unfold endG; rw [List.length_set]; exact t.fr.1, fun n o ho a b c e => ?_⟩, st.m1, st.m2, st.ne⟩
  have hl := (List.getElem?_eq_some_iff.1 ho).1
  have := hA.lo
  unfold endG
  rw [List.getElem?_set_ne (by omega)]
  exact t.fr.2 n o ho a b c e
end
def doR (G : List Ob) (l : List Value) (e : Env) : Prop := ∃ d y M R kd i vB vK B K, l = [tokAt d 0, tokAt y 0, .agg #[.int .i64 kd, .int .i64 i, vB, vK]] ∧ Two G d y M R ∧ Same M R ∧ SlK G vB 1 (List.length B) (u8s B) ∧ SlK G vK 1 (List.length K) (K.map (Value.int .i64)) ∧ B.length ≤ 900000 ∧ K.length ≤ 900000 ∧ i < 9223372036854775808 ∧
  e.b 0 = true ∧ e.g gv = encG (doG G d y M R kd i vB vK B K)
def doC : Con := mkCon 19 [] (.bool (.var 0)) 2
theorem do_holds : doC.holds Try.prog (conR doR) := by
  refine con_of_runG (cs := dp2) (S := dp2S) (LT := []) (depth := 1) (fuel := 10) (nv := 200) (av := [.pla (.var 0) (.lit 0) 0, .pla (.var 1) (.lit 0) 0, .agg (opE 2)]) (T := treeDoes) dp2_holds (by kernel_rfl) (by kernel_rfl) (by kernel_rfl) ?_
  rintro G l e0 ⟨d, y, M, R, kd, i, vB, vK, B, K, rfl, hT, hS, sB, sK, lB, lK, hi63, q0, hG⟩
  have oB := sB.sl.one
  have oK := sK.sl.one
  obtain ⟨hA, eA, eB⟩ := do_at hT kd i vB vK B K
  obtain ⟨Gp, hGp⟩ : ∃ x, x = doP G kd i vB vK := ⟨_, rfl⟩
  obtain ⟨Ga, hGa⟩ : ∃ x, x = doA G kd i vB vK B := ⟨_, rfl⟩
  obtain ⟨Gb, hGb⟩ : ∃ x, x = doB G kd i vB vK B K := ⟨_, rfl⟩
  obtain ⟨db, hdb⟩ : ∃ x, x = doDb G kd i vB vK B := ⟨_, rfl⟩
  obtain ⟨dk, hdk⟩ : ∃ x, x = doDk G kd i vB vK B K := ⟨_, rfl⟩
  rw [← hGp, ← hdb] at eA
  rw [← hGa, ← hdk] at eB
  rw [← hGb, ← hdb, ← hdk] at hA
  have hGx : encG (doG G d y M R kd i vB vK B K) = encG (endG (doS Gb d y M R (pickI kd 5) i db dk B K).1 db dk B K) := by unfold doG doS'; rw [← hGb, ← hdb, ← hdk]
  rw [hGx] at hG
  have kp : Keeps G Gp := by rw [hGp]; exact Keeps.append _ _
  have ka : Keeps Gp Ga := by rw [hGa, hGp]; exact (cp_at _ _).keep
  have kb : Keeps Ga Gb := by rw [hGb, hGa]; exact (cp_atI _ _).keep
  have hop : Gp[G.length]? = some (.ptr (opV kd i vB vK)) := by rw [hGp]; unfold doP; rw [List.getElem?_append_right (Nat.le_refl _), Nat.sub_self]; rfl
  refine ⟨noLoops, (Env.ofL [.int .i64 d, .int .i64 y, .int .i64 kd, .int .i64 i, vB, vK]).st (encG G), by show [_, _, Value.agg #[_, _, vB, vK]] = [_, _, Value.agg #[_, _, oneOf vB, oneOf vK]]; rw [oneOf_eq oB, oneOf_eq oK]; rfl, rfl, ?_⟩
  refine sem_step G [.agg #[.int .i64 kd, .int .i64 i, vB, vK]] ((Env.ofL [.int .i64 G.length]).ans (encG Gp)) rfl (by show [Value.agg #[_, _, oneOf vB, oneOf vK], _] = _; rw [oneOf_eq oB, oneOf_eq oK]; rfl) ⟨_, rfl, ?_, fun cs e => (by cases e), Nat.succ_pos 3, rfl, by rw [hGp]; rfl⟩ ?_
  · intro c hc
    simp [Value.cells] at hc
    rcases hc with rfl | rfl | rfl | rfl
    · rfl
    · rfl
    · exact oB
    · exact oK
  refine sem_step Gp [tokAt G.length 2] (Env.ofL [vB]) rfl rfl ⟨_, 2, _, vB, rfl, cells_ptr hop, rfl, oneOf_eq oB⟩ ?_
  refine sem_step Gp [vB] ((Env.ofL [tok db]).ans (encG Ga)) rfl (by show [oneOf vB, _] = _; rw [oneOf_eq oB]; rfl) ⟨vB, B, rfl, sl_keep kp sB.sl, lB, eA.symm, by rw [hGa, hGp]; rfl⟩ ?_
  refine sem_step Ga [tokAt G.length 3] (Env.ofL [vK]) rfl rfl ⟨_, 3, _, vK, rfl, cells_ptr (ka _ _ hop), rfl, oneOf_eq oK⟩ ?_
  refine sem_step Ga [vK] ((Env.ofL [tok dk]).ans (encG Gb)) rfl (by show [oneOf vK, _] = _; rw [oneOf_eq oK]; rfl) ⟨vK, K, rfl, sl_keep ka (sl_keep kp sK.sl), lK, eB.symm, by rw [hGb, hGa]; rfl⟩ ?_
  refine sem_step Gb [tokAt G.length 0] (Env.ofL [.int .i64 kd]) rfl rfl ⟨_, 0, _, _, rfl, cells_ptr hA.op, rfl, rfl⟩ ?_
  obtain ⟨f, hf⟩ : ∃ f, f = pickI kd 5 := ⟨_, rfl⟩
  have hfr := pick_rng (a := kd) (b := 5) (by omega) (by omega)
  rw [← hf] at hfr hG
  refine sem_call pickS (Env.ofL [.int .i64 f]) rfl ⟨kd, 5, rfl, hf⟩ ?_
  have hTb := hA.st.two
  have hrv : KeepRV G Gb := keepRV_of hA.kp
  have hdbl := (List.getElem?_eq_some_iff.1 hA.rb).1
  have hdkl := (List.getElem?_eq_some_iff.1 hA.rk).1
  obtain ⟨st, sm⟩ := do_step (Gb := Gb) (db := db) (dk := dk) (B := B) (K := K) hTb hS f hi63
  have hE := do_end hT hA st sm sB sK lB lK
  obtain ⟨pd, pm1, pm2, py⟩ := hT.lt
  have opOf : ∀ {Gx : List Ob}, FrB d y M Gb Gx → Gx[G.length]? = some (.ptr (opV kd i vB vK)) := fun h => h.2 _ _ hA.op (by omega) (by omega) (by omega) (by omega)
  refine sem_split (fun h => ?_) (fun h => ?_)
  · have h0 : f = 0 := eq_of_beq h
    have eS : doS Gb d y M R f i db dk B K = (rwG (wrG (Gb ++ [.view db 1 0 B.length]) d M i B) y R i B, wrM M i B, rwM (wrG (Gb ++ [.view db 1 0 B.length]) d M i B) y R i B) := by unfold doS; rw [if_pos (by omega)]
    rw [eS] at hE hG
    obtain ⟨Gc, hGc⟩ : ∃ x, x = Gb ++ [.view db 1 0 B.length] := ⟨_, rfl⟩
    rw [← hGc] at hE hG
    have kc : Keeps Gb Gc := by rw [hGc]; exact Keeps.append _ _
    have t0 := TStep.of_keeps hTb kc (by rw [hGc]; simp)
    have t1 := t0.trans (TStep.disk t0.two (wr_step t0.two.dk i B))
    have hvw : Gc[Gb.length]? = some (.view db 1 0 B.length) := by rw [hGc, List.getElem?_append_right (Nat.le_refl _), Nat.sub_self]; rfl
    have hsv := view_slk hvw (kc _ _ hA.rb) hdbl (by simp) (xs := u8s B) (by rw [← List.map_take, List.take_left])
    refine sem_step Gb [tokAt G.length 1] (Env.ofL [.int .i64 i]) rfl rfl ⟨_, 1, _, _, rfl, cells_ptr hA.op, rfl, rfl⟩ ?_
    refine sem_step Gb [tokAt G.length 2] (Env.ofL [vB]) rfl rfl ⟨_, 2, _, vB, rfl, cells_ptr hA.op, rfl, oneOf_eq oB⟩ ?_
    refine sem_step Gb [vB] (Env.ofL [.int .i64 B.length]) rfl (by show [oneOf vB, _] = _; rw [oneOf_eq oB]; rfl) ⟨vB, 1, _, _, rfl, sB _ hrv, rfl⟩ ?_
    refine sem_step Gb [tok db, .int .i64 B.length] ((Env.ofL [tok Gb.length]).ans (encG Gc)) rfl rfl ⟨_, _, rfl, .inr ⟨db, _, _, rfl, .inl hA.rb, by omega, by rw [List.length_append]; omega, rfl, by rw [hGc, Int.toNat_natCast]; rfl⟩⟩ ?_
    refine sem_step Gc [tokAt d 0, .int .i64 i, tok Gb.length] ((Env.ofL [.int .i64 (wrE M i B)]).ans (encG (wrG Gc d M i B))) rfl rfl ⟨_, M, i, _, B, rfl, t0.two.dk, hsv.sl, rfl, rfl⟩ ?_
    refine sem_step (wrG Gc d M i B) [tokAt G.length 1] (Env.ofL [.int .i64 i]) rfl rfl ⟨_, 1, _, _, rfl, cells_ptr (opOf t1.fr), rfl, rfl⟩ ?_
    refine sem_step (wrG Gc d M i B) [tokAt G.length 2] (Env.ofL [vB]) rfl rfl ⟨_, 2, _, vB, rfl, cells_ptr (opOf t1.fr), rfl, oneOf_eq oB⟩ ?_
    refine sem_step (wrG Gc d M i B) [tokAt y 0, .int .i64 i, vB] ((Env.ofL [.int .i64 (rwE R i B.length)]).ans (encG (rwG (wrG Gc d M i B) y R i B))) rfl (by show [_, _, oneOf vB, _] = _; rw [oneOf_eq oB]; rfl) ⟨_, R, i, vB, B, rfl, t1.two.rf, sB.keep (hrv.trans (t1.rv hTb)), rfl, rfl⟩ ?_
    refine sem_yes (by show (wrE M i B == rwE R i B.length) = true; rw [(same_wr hS hTb.dk.rng Gb y i B).1]; exact beq_self_eq_true _) ?_
    exact sem_dt0 hE rfl rfl rfl rfl rfl rfl q0 hG
  refine sem_split (fun h' => ?_) (fun h' => ?_)
  · have h0 : f = 1 := eq_of_beq h'
    have eS : doS Gb d y M R f i db dk B K = (rwG (wrG (Gb ++ [.view db 1 0 B.length]) d M i B) y R i B, wrM M i B, rwM (wrG (Gb ++ [.view db 1 0 B.length]) d M i B) y R i B) := by unfold doS; rw [if_pos (by omega)]
    rw [eS] at hE hG
    obtain ⟨Gc, hGc⟩ : ∃ x, x = Gb ++ [.view db 1 0 B.length] := ⟨_, rfl⟩
    rw [← hGc] at hE hG
    have kc : Keeps Gb Gc := by rw [hGc]; exact Keeps.append _ _
    have t0 := TStep.of_keeps hTb kc (by rw [hGc]; simp)
    have t1 := t0.trans (TStep.disk t0.two (wr_step t0.two.dk i B))
    have hvw : Gc[Gb.length]? = some (.view db 1 0 B.length) := by rw [hGc, List.getElem?_append_right (Nat.le_refl _), Nat.sub_self]; rfl
    have hsv := view_slk hvw (kc _ _ hA.rb) hdbl (by simp) (xs := u8s B) (by rw [← List.map_take, List.take_left])
    refine sem_step Gb [tokAt G.length 1] (Env.ofL [.int .i64 i]) rfl rfl ⟨_, 1, _, _, rfl, cells_ptr hA.op, rfl, rfl⟩ ?_
    refine sem_step Gb [tokAt G.length 2] (Env.ofL [vB]) rfl rfl ⟨_, 2, _, vB, rfl, cells_ptr hA.op, rfl, oneOf_eq oB⟩ ?_
    refine sem_step Gb [vB] (Env.ofL [.int .i64 B.length]) rfl (by show [oneOf vB, _] = _; rw [oneOf_eq oB]; rfl) ⟨vB, 1, _, _, rfl, sB _ hrv, rfl⟩ ?_
    refine sem_step Gb [tok db, .int .i64 B.length] ((Env.ofL [tok Gb.length]).ans (encG Gc)) rfl rfl ⟨_, _, rfl, .inr ⟨db, _, _, rfl, .inl hA.rb, by omega, by rw [List.length_append]; omega, rfl, by rw [hGc, Int.toNat_natCast]; rfl⟩⟩ ?_
    refine sem_step Gc [tokAt d 0, .int .i64 i, tok Gb.length] ((Env.ofL [.int .i64 (wrE M i B)]).ans (encG (wrG Gc d M i B))) rfl rfl ⟨_, M, i, _, B, rfl, t0.two.dk, hsv.sl, rfl, rfl⟩ ?_
    refine sem_step (wrG Gc d M i B) [tokAt G.length 1] (Env.ofL [.int .i64 i]) rfl rfl ⟨_, 1, _, _, rfl, cells_ptr (opOf t1.fr), rfl, rfl⟩ ?_
    refine sem_step (wrG Gc d M i B) [tokAt G.length 2] (Env.ofL [vB]) rfl rfl ⟨_, 2, _, vB, rfl, cells_ptr (opOf t1.fr), rfl, oneOf_eq oB⟩ ?_
    refine sem_step (wrG Gc d M i B) [tokAt y 0, .int .i64 i, vB] ((Env.ofL [.int .i64 (rwE R i B.length)]).ans (encG (rwG (wrG Gc d M i B) y R i B))) rfl (by show [_, _, oneOf vB, _] = _; rw [oneOf_eq oB]; rfl) ⟨_, R, i, vB, B, rfl, t1.two.rf, sB.keep (hrv.trans (t1.rv hTb)), rfl, rfl⟩ ?_
    refine sem_yes (by show (wrE M i B == rwE R i B.length) = true; rw [(same_wr hS hTb.dk.rng Gb y i B).1]; exact beq_self_eq_true _) ?_
    exact sem_dt1 hE rfl rfl rfl rfl rfl rfl q0 hG
  have n0 : ¬ f = 0 := ne_of_beq_false h
  have n1 : ¬ f = 1 := ne_of_beq_false h'
  refine sem_split (fun h => ?_) (fun h => ?_)
  · have h0 : f = 2 := eq_of_beq h
    have eS : doS Gb d y M R f i db dk B K = (rsyG (sycG Gb d M) y R, sycM M Gb.length, rsyM R) := by unfold doS; rw [if_neg (by omega), if_pos h0]
    rw [eS] at hE hG
    have t1 := TStep.disk hTb (syc_step hTb.dk)
    refine sem_step Gb [tokAt d 0] ((Env.ofL [.int .i64 (sycE M)]).ans (encG (sycG Gb d M))) rfl rfl ⟨_, M, rfl, hTb.dk, rfl, rfl⟩ ?_
    refine sem_step (sycG Gb d M) [tokAt y 0] ((Env.ofL [.int .i64 (rsyE R)]).ans (encG (rsyG (sycG Gb d M) y R))) rfl rfl ⟨_, R, rfl, t1.two.rf, rfl, rfl⟩ ?_
    refine sem_yes (by show (sycE M == rsyE R) = true; rw [(same_syc hS hTb.dk.rng hTb.dk.nd 0).1]; exact beq_self_eq_true _) ?_
    exact sem_dt2 hE rfl rfl rfl rfl rfl rfl q0 hG
  have n2 : ¬ f = 2 := ne_of_beq_false h
  refine sem_split (fun h => ?_) (fun h => ?_)
  · have h0 : f = 3 := eq_of_beq h
    have eS : doS Gb d y M R f i db dk B K = ((armG Gb d M i).set y (.ptr (rarM R i).cells), armM M i, rarM R i) := by unfold doS; rw [if_neg (by omega), if_neg n2, if_pos h0]
    rw [eS] at hE hG
    have t1 := TStep.disk hTb (arm_step hTb.dk hi63)
    refine sem_step Gb [tokAt G.length 1] (Env.ofL [.int .i64 i]) rfl rfl ⟨_, 1, _, _, rfl, cells_ptr hA.op, rfl, rfl⟩ ?_
    refine sem_step Gb [tokAt d 0, .int .i64 i] ((Env.ofL []).ans (encG (armG Gb d M i))) rfl rfl ⟨_, M, i, rfl, hTb.dk, rfl⟩ ?_
    refine sem_step (armG Gb d M i) [tokAt G.length 1] (Env.ofL [.int .i64 i]) rfl rfl ⟨_, 1, _, _, rfl, cells_ptr (opOf t1.fr), rfl, rfl⟩ ?_
    refine sem_step (armG Gb d M i) [tokAt y 0, .int .i64 i] ((Env.ofL []).ans (encG ((armG Gb d M i).set y (.ptr (rarM R i).cells)))) rfl rfl ⟨_, R, i, rfl, t1.two.rf.at_, rfl⟩ ?_
    exact sem_dt3 hE rfl rfl rfl rfl rfl rfl q0 hG
  have n3 : ¬ f = 3 := ne_of_beq_false h
  have h4 : f = 4 := by omega
  refine sem_yes (by show (f == 4) = true; rw [h4]; rfl) ?_
  have eS : doS Gb d y M R f i db dk B K = (rcrG (crash (Gb ++ [.view dk 1 0 K.length]) d M K).1 y R K, (crash (Gb ++ [.view dk 1 0 K.length]) d M K).2, rcrM R K) := by unfold doS; rw [if_neg (by omega), if_neg n2, if_neg n3]
  rw [eS] at hE hG
  obtain ⟨Gc, hGc⟩ : ∃ x, x = Gb ++ [.view dk 1 0 K.length] := ⟨_, rfl⟩
  rw [← hGc] at hE hG
  have kc : Keeps Gb Gc := by rw [hGc]; exact Keeps.append _ _
  have t0 := TStep.of_keeps hTb kc (by rw [hGc]; simp)
  have t1 := t0.trans (TStep.disk t0.two (cra_step t0.two.dk K))
  have hvw : Gc[Gb.length]? = some (.view dk 1 0 K.length) := by rw [hGc, List.getElem?_append_right (Nat.le_refl _), Nat.sub_self]; rfl
  have hsv := view_slk hvw (kc _ _ hA.rk) hdkl (by simp) (xs := K.map (Value.int .i64)) (by rw [← List.map_take, List.take_left])
  refine sem_step Gb [tokAt G.length 3] (Env.ofL [vK]) rfl rfl ⟨_, 3, _, vK, rfl, cells_ptr hA.op, rfl, oneOf_eq oK⟩ ?_
  refine sem_step Gb [vK] (Env.ofL [.int .i64 K.length]) rfl (by show [oneOf vK, _] = _; rw [oneOf_eq oK]; rfl) ⟨vK, 1, _, _, rfl, sK _ hrv, rfl⟩ ?_
  refine sem_step Gb [tok dk, .int .i64 K.length] ((Env.ofL [tok Gb.length]).ans (encG Gc)) rfl rfl ⟨_, _, rfl, .inr ⟨dk, _, _, rfl, .inl hA.rk, by omega, by rw [List.length_append]; omega, rfl, by rw [hGc, Int.toNat_natCast]; rfl⟩⟩ ?_
  refine sem_step Gc [tokAt d 0, tok Gb.length] ((Env.ofL []).ans (encG (crash Gc d M K).1)) rfl rfl ⟨_, M, _, K, rfl, t0.two.dk, fun G' hf => hsv G' (frd_rv t0.two.dk hf), rfl⟩ ?_
  refine sem_step (crash Gc d M K).1 [tokAt G.length 3] (Env.ofL [vK]) rfl rfl ⟨_, 3, _, vK, rfl, cells_ptr (opOf t1.fr), rfl, oneOf_eq oK⟩ ?_
  refine sem_step (crash Gc d M K).1 [tokAt y 0, vK] ((Env.ofL []).ans (encG (rcrG (crash Gc d M K).1 y R K))) rfl (by show [_, oneOf vK, _] = _; rw [oneOf_eq oK]; rfl) ⟨_, R, vK, K, rfl, t1.two.rf, sK.keep (hrv.trans (t1.rv hTb)), rfl⟩ ?_
  exact sem_dt4 hE rfl rfl rfl rfl rfl rfl q0 hG
end Go.Proofs.Ytcedgoaanlbldaa
