/- What is proved: the contract of the law's read of both disks. No condition but those each law names. -/
import Derived.Test.YtcedgoaanlbldaaD5
namespace Go.Proofs.Ytcedgoaanlbldaa
open Sx hiding Sl
set_option maxRecDepth 100000

/-- What is read can be written over. -/
theorem rd_mut {G : List Ob} {d : Nat} {M : DiskM} (h : IsDisk G d M) (i : Int) :
    (rdV G M i = .slice none 0 0 ∧ rdBs M i = []) ∨ (∃ k, rdV G M i = tok k ∧ (rdG G M i)[k]? = some (.row 1 128 (u8s (rdBs M i))) ∧ (rdBs M i).length = 128 ∧ G.length ≤ k) ∨
      (∃ k m, rdV G M i = tok k ∧ (rdG G M i)[k]? = some (.view m 1 0 128) ∧ (rdG G M i)[m]? = some (.ptr (u8s (rdBs M i))) ∧ (rdBs M i).length = 128 ∧ m < k ∧ G.length ≤ m) := by
  unfold rdV rdG rdBs
  cases hb : rdBad i with
  | true => exact .inl ⟨rfl, rfl⟩
  | false =>
    simp only [Bool.false_eq_true, if_false]
    cases hg : getA M.lo i with
    | some bs =>
      refine .inr (.inr ⟨G.length + 1, G.length, rfl, ?_, ?_, (h.lo _ (getA_mem hg)).1, by omega, Nat.le_refl _⟩)
      · show (G ++ [Ob.ptr (u8s bs)] ++ [Ob.view G.length 1 0 128])[G.length + 1]? = _
        rw [List.getElem?_append_right (by simp)]
        simp
      · show (G ++ [Ob.ptr (u8s bs)] ++ [Ob.view G.length 1 0 128])[G.length]? = _
        rw [List.append_assoc, List.getElem?_append_right (Nat.le_refl _), Nat.sub_self]
        rfl
    | none =>
      cases hl : getA M.la i with
      | none =>
        refine .inr (.inl ⟨G.length + 1, rfl, ?_, rfl, by omega⟩)
        show (G ++ [Ob.ptr (u8s zs)] ++ [Ob.row 1 128 (u8s zs)])[G.length + 1]? = _
        rw [List.getElem?_append_right (by simp)]
        simp
      | some o =>
        cases o with
        | none => exact .inl ⟨rfl, rfl⟩
        | some q =>
          have hq := (h.la i q (getA_mem hl)).2
          have hlen : (rdGv G q.1).length = G.length + 2 := by simp [rdGv]
          refine .inr (.inl ⟨(rdGv G q.1).length + 1, rfl, ?_, hq, by omega⟩)
          show (rdGv G q.1 ++ [Ob.dead] ++ [Ob.row 1 128 (u8s q.2)])[(rdGv G q.1).length + 1]? = _
          rw [List.getElem?_append_right (by simp)]
          simp
/-- What was read is written over, a store later. -/
theorem rd_spoil {G G' : List Ob} {d : Nat} {M : DiskM} (h : IsDisk G d M) (i : Int) (hk : Keeps (rdG G M i) G') : spoR G' [rdV G M i] ((Env.ofL []).ans (encG (spG G' (rdV G M i) (rdBs M i).length))) ∧ Keeps G (spG G' (rdV G M i) (rdBs M i).length) := by
  have hG := rd_keeps h i
  have hl := rd_len h i
  have hset : ∀ (m : Nat) (o : Ob), G.length ≤ m → Keeps G (G'.set m o) := fun m o hm n x hx => by
    have := (List.getElem?_eq_some_iff.1 hx).1
    rw [List.getElem?_set_ne (by omega)]
    exact hk n x (hG n x hx)
  rcases rd_mut h i with ⟨e1, e2⟩ | ⟨k, e1, e2, e3, e4⟩ | ⟨k, m, e1, e2, e3, e4, e5, e6⟩
  · rw [e1, e2]
    exact ⟨⟨_, 0, rfl, by omega, .inl ⟨rfl, rfl, rfl⟩⟩, fun n o ho => hk n o (hG n o ho)⟩
  · have h2 := hk k _ e2
    rw [e1, e3, spG_row h2]
    exact ⟨⟨_, 128, rfl, by omega, .inr ⟨_, _, _, mut_row h2 (by rw [List.length_map]; exact e3), rfl⟩⟩, hset k _ e4⟩
  · have h2 := hk k _ e2
    have h3 := hk m _ e3
    rw [e1, e4, spG_view h2]
    exact ⟨⟨_, 128, rfl, by omega, .inr ⟨_, _, _, mut_view h2 h3 (by rw [List.length_map]; exact e4) e5, rfl⟩⟩, hset m _ e6⟩
def reG3 (G : List Ob) (M : DiskM) (R : RefM) (i : Int) : List Ob := spG (rrG (rdG G M i) R i) (rdV G M i) (rdBs M i).length
def reG (G : List Ob) (M : DiskM) (R : RefM) (i : Int) : List Ob := rdG (reG3 G M R i) M i
def reR (G : List Ob) (l : List Value) (e : Env) : Prop := ∃ d y M R i, l = [tokAt d 0, tokAt y 0, .int .i64 i] ∧ Two G d y M R ∧ Same M R ∧ e.b 0 = true ∧ e.g gv = encG (reG G M R i)
def reC : Con := mkCon 20 [] (.bool (.var 0)) 2
theorem rr_at (G : List Ob) (R : RefM) (i : Int) : Keeps G (rrG G R i) ∧ G.length ≤ (rrG G R i).length ∧ Sx.Sl (rrG G R i) (rrV G R i) 1 (rrBs R i).length (u8s (rrBs R i)) := by
  have hat := cp_at G (rrBs R i)
  exact ⟨hat.keep, hat.len, dst_sl hat.dst (by rw [List.length_map, Nat.mul_one])⟩
theorem re_keeps {G : List Ob} {d y : Nat} {M : DiskM} {R : RefM} (h : Two G d y M R) (i : Int) : Keeps G (reG3 G M R i) ∧ Keeps G (reG G M R i) ∧ G.length ≤ (reG G M R i).length := by
  obtain ⟨q1, q2, _⟩ := rr_at (rdG G M i) R i
  obtain ⟨_, q3⟩ := rd_spoil h.dk i q1
  have h3 := h.dk.keeps q3
  have l3 : G.length ≤ (reG3 G M R i).length := by
    unfold reG3
    rw [spG_len]
    exact Nat.le_trans (rd_len h.dk i) q2
  exact ⟨q3, fun n o ho => rd_keeps h3 i n o (q3 n o ho), Nat.le_trans l3 (rd_len h3 i)⟩
def sp : List Con := [rdC, rrC, sameC, spoC]
def spS : List ConS := [conR rdR, conR rrR, conR sameR, conR spoR]
theorem sp_holds : Cons Try.prog sp spS := ⟨rd_holds, rr_holds, same_holds, spo_holds, trivial⟩
def treeSRead : Tree :=
 (.call 0 3200 [(.pla (.var 0) (.lit 0) 0), (.int .i64 (.var 2)), (.var 199)]
 (.call 1 11200 [(.pla (.var 1) (.lit 0) 0), (.int .i64 (.var 2)), (.var 4199)]
 (.split (.cmp .eql (.var 3201) (.var 11201))
 (.call 2 23200 [(.hnd 3200), (.hnd 11200), (.var 12199)]
 (.call 3 27200 [(.hnd 3200), (.var 24199)]
 (.call 0 30200 [(.pla (.var 0) (.lit 0) 0), (.int .i64 (.var 2)), (.var 28199)]
 (.split (.var 23200)
 (.call 2 40200 [(.hnd 30200), (.hnd 11200), (.var 31199)]
 (leafG (.bool (.var 40200)) .nil 41199))
 (leafG (.bool (.lit false)) .nil 31199)))))
 (.call 3 27200 [(.hnd 3200), (.var 12199)]
 (.call 0 30200 [(.pla (.var 0) (.lit 0) 0), (.int .i64 (.var 2)), (.var 28199)]
 (leafG (.bool (.lit false)) .nil 31199))))))
theorem rr_row {G : List Ob} {R : RefM} {i : Int} : rrV G R i = .slice none 0 0 ∧ rrBs R i = [] ∨ ∃ k, rrV G R i = tok k ∧ G.length ≤ k ∧ (rrG G R i)[k]? = some (.row 1 (rrBs R i).length (u8s (rrBs R i))) := by
  have hat := cp_at G (rrBs R i)
  rcases hat.dst with ⟨h1, h2, _⟩ | ⟨k, h1, h2⟩
  · exact .inl ⟨h1, List.eq_nil_of_length_eq_zero h2⟩
  · exact .inr ⟨k, h1, hat.new k h1, h2⟩
theorem rd_top {G : List Ob} {d : Nat} {M : DiskM} (h : IsDisk G d M) (i : Int) : ∀ k, rdV G M i = tok k → k < (rdG G M i).length := fun k e => by
  rcases rd_mut h i with ⟨e1, _⟩ | ⟨k', e1, e2, _⟩ | ⟨k', m, e1, e2, _⟩
  · rw [e1] at e; cases e
  · rw [e1] at e
    rw [← tok_inj e]
    exact (List.getElem?_eq_some_iff.1 e2).1
  · rw [e1] at e
    rw [← tok_inj e]
    exact (List.getElem?_eq_some_iff.1 e2).1
theorem rd_spoil_other {G G' : List Ob} {d : Nat} {M : DiskM} (h : IsDisk G d M) (i : Int) (hk : Keeps (rdG G M i) G') {n : Nat} {o : Ob} (hn : (rdG G M i).length ≤ n) (ho : G'[n]? = some o) : (spG G' (rdV G M i) (rdBs M i).length)[n]? = some o := by
  rcases rd_mut h i with ⟨e1, e2⟩ | ⟨k, e1, e2, e3, e4⟩ | ⟨k, m, e1, e2, e3, e4, e5, e6⟩
  · rw [e1, e2]; exact ho
  · have h2 := hk k _ e2
    have := (List.getElem?_eq_some_iff.1 e2).1
    rw [e1, e3, spG_row h2, List.getElem?_set_ne (by omega)]
    exact ho
  · have h2 := hk k _ e2
    have := (List.getElem?_eq_some_iff.1 e3).1
    rw [e1, e4, spG_view h2, List.getElem?_set_ne (by omega)]
    exact ho
theorem re_holds : reC.holds Try.prog (conR reR) := by
  refine con_of_runG (cs := sp) (S := spS) (LT := []) (depth := 1) (fuel := 10) (nv := 200) (av := [.pla (.var 0) (.lit 0) 0, .pla (.var 1) (.lit 0) 0, .int .i64 (.var 2)]) (T := treeSRead) sp_holds (by kernel_rfl) (by kernel_rfl) (by kernel_rfl) ?_
  rintro G l e0 ⟨d, y, M, R, i, rfl, hT, hS, q0, hG⟩
  obtain ⟨r1, r2⟩ := same_rd hS hT.dk i
  refine ⟨noLoops, (Env.ofL [.int .i64 d, .int .i64 y, .int .i64 i]).st (encG G), rfl, rfl, ?_⟩
  obtain ⟨G1, hG1⟩ : ∃ x, x = rdG G M i := ⟨_, rfl⟩
  obtain ⟨G2, hG2⟩ : ∃ x, x = rrG G1 R i := ⟨_, rfl⟩
  obtain ⟨G3, hG3⟩ : ∃ x, x = spG G2 (rdV G M i) (rdBs M i).length := ⟨_, rfl⟩
  have k1 : Keeps G G1 := by rw [hG1]; exact rd_keeps hT.dk i
  have t1 := TStep.of_keeps hT k1 (by rw [hG1]; exact rd_len hT.dk i)
  obtain ⟨k2, l2, sl2⟩ := rr_at G1 R i
  rw [← hG2] at k2 l2 sl2
  have ka : Keeps (rdG G M i) G2 := by rw [← hG1]; exact k2
  obtain ⟨sp3, k3⟩ := rd_spoil hT.dk i ka
  rw [← hG3] at sp3 k3
  have e4 : reG G M R i = rdG G3 M i := by unfold reG reG3; rw [← hG1, ← hG2, ← hG3]
  have hd3 := hT.dk.keeps k3
  have k4 := rd_keeps hd3 i
  obtain ⟨_, sl1⟩ := rd_at hT.dk i
  rw [← hG1] at sl1
  have o1 := sl1.one
  have o2 := sl2.one
  obtain ⟨_, sl4⟩ := rd_at hd3 i
  have o4 := sl4.one
  have blen := rdBs_length hT.dk i
  -- the document's bytes, later
  have sl5 : Sx.Sl (rdG G3 M i) (rrV G1 R i) 1 (rrBs R i).length (u8s (rrBs R i)) := by
    rcases rr_row (G := G1) (R := R) (i := i) with ⟨e1, e2⟩ | ⟨k, e1, e2, e3⟩
    · rw [e1, e2]; exact .inl ⟨rfl, rfl, rfl⟩
    · rw [← hG2] at e3
      have h3 : G3[k]? = some (.row 1 (rrBs R i).length (u8s (rrBs R i))) := by rw [hG3]; exact rd_spoil_other hT.dk i ka (by rw [← hG1]; exact e2) e3
      rw [e1]
      exact dst_sl (.inr ⟨k, rfl, k4 k _ h3⟩) (by rw [List.length_map, Nat.mul_one])
  refine sem_step G [tokAt d 0, .int .i64 i] ((Env.ofL [rdV G M i, .int .i64 (rdE M i)]).ans (encG G1)) rfl rfl ⟨_, M, i, rfl, hT.dk, rfl, rfl, by rw [hG1]; rfl⟩ ?_
  refine sem_step G1 [tokAt y 0, .int .i64 i] ((Env.ofL [rrV G1 R i, .int .i64 (rrE R i)]).ans (encG G2)) rfl rfl ⟨_, R, i, rfl, t1.two.rf, rfl, rfl, by rw [hG2]; rfl⟩ ?_
  refine sem_yes (by show (rdE M i == rrE R i) = true; rw [r1]; exact beq_self_eq_true _) ?_
  refine sem_step G2 [rdV G M i, rrV G1 R i] ((Env.ofL [.bool true]).ans (encG G2)) rfl (by show [oneOf (rdV G M i), oneOf (rrV G1 R i), _] = _; rw [oneOf_eq o1, oneOf_eq o2]; rfl) ⟨_, _, rdBs M i, rrBs R i, rfl, sl_keep k2 sl1, sl2, by omega, by rw [r2]; simp [Env.ofL, Env.ans], rfl⟩ ?_
  refine sem_step G2 [rdV G M i] ((Env.ofL []).ans (encG G3)) rfl (by show [oneOf (rdV G M i), _] = _; rw [oneOf_eq o1]; rfl) sp3 ?_
  refine sem_step G3 [tokAt d 0, .int .i64 i] ((Env.ofL [rdV G3 M i, .int .i64 (rdE M i)]).ans (encG (rdG G3 M i))) rfl rfl ⟨_, M, i, rfl, hd3, rfl, rfl, rfl⟩ ?_
  refine sem_yes rfl ?_
  refine sem_step (rdG G3 M i) [rdV G3 M i, rrV G1 R i] ((Env.ofL [.bool true]).ans (encG (rdG G3 M i))) rfl (by show [oneOf (rdV G3 M i), oneOf (rrV G1 R i), _] = _; rw [oneOf_eq o4, oneOf_eq o2]; rfl) ⟨_, _, rdBs M i, rrBs R i, rfl, sl4, sl5, by omega, by rw [r2]; simp [Env.ofL, Env.ans], rfl⟩ ?_
  exact sem_retG rfl (by show Value.bool true = Value.bool (e0.b 0); rw [q0]) trivial (by rw [hG, e4]; rfl)
end Go.Proofs.Ytcedgoaanlbldaa
