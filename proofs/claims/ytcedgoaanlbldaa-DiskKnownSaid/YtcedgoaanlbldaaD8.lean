/- What is proved: the walk of DiskRuns; it returns true, whatever comes in. No condition but those each law names. -/
import Derived.Test.YtcedgoaanlbldaaT6
namespace Go.Proofs.Ytcedgoaanlbldaa
open Sx hiding Sl
set_option maxRecDepth 100000

theorem Ops.sl {G : List Ob} {v : Value} {L : List OD} (h : Ops G v L) : Sx.Sl G v 4 L.length (rowO L) := by
  rcases h.row with ⟨rfl, rfl⟩ | ⟨d, rfl, hd⟩
  · exact .inl ⟨rfl, rfl, rfl⟩
  · exact .inr ⟨d, 0, _, ⟨d, rfl, .inl ⟨_, .inr hd, rfl, rfl⟩⟩, by unfold cellsAt; rw [hd]; rfl, by rw [rowO_length]; omega, by rw [List.drop_zero, List.take_of_length_le (by rw [rowO_length]; omega)]⟩
theorem rowO_at {L : List OD} {i j : Nat} (hi : i < L.length) (hj : j < 4) : (rowO L)[i * 4 + j]? = L[i].cells[j]? := by
  rw [rowO_get, show (i * 4 + j) / 4 = i by omega, show (i * 4 + j) % 4 = j by omega, List.getElem?_eq_getElem hi]
  rfl
def rup : List Con := [newC, worC, rnewC, lenC 43, idxC 43, loadC 49 (.agg (opE 0)), doC, reC, countC, rcoC, downC, rdoC, loadC 3 (.int .i64 (.var 0)), loadC 27 (.hnd 0), loadC 23 (.hnd 0), lenC 27, lenC 23, nilC]
def rupS : List ConS := [conR newR, conR worR, conR rnewR, conR lenR, conR (idxR 4), conR (loadRowR 4 (.agg (opE 0))), conR doR, conR reR, conR countR, conR rcoR, conR downR, conR rdoR, conR (loadR (.int .i64 (.var 0))), conR (loadR (.hnd 0)), conR (loadR (.hnd 0)), conR lenR, conR lenR, conR nilR]
theorem rup_holds : Cons Try.prog rup rupS :=
  ⟨new_holds, wor_holds, rnew_holds, len_holds Try.underlying43, idx_holds Try.underlying43 (by kernel_rfl), loadRow_holds (by kernel_rfl) (by kernel_rfl) rfl, do_holds, re_holds, count_holds, rco_holds, down_holds, rdo_holds, load_holds (by kernel_rfl) rfl, load_holds (by kernel_rfl) rfl, load_holds (by kernel_rfl) rfl, len_holds Try.underlying27, len_holds Try.underlying23, nil_holds, trivial⟩
def ru0 (G : List Ob) : List Ob := newG G ++ [.ptr ref0.cells]
theorem ru0_two (G : List Ob) : Two (ru0 G) (G.length + 2) (G.length + 3) (newM G.length) ref0 := by
  have n0 := newG_length G
  refine ⟨(new_is G).keeps (Keeps.append _ _), ⟨?_, fun i _ => .inl ⟨rfl, rfl⟩, fun i _ => .inl ⟨rfl, rfl⟩⟩⟩
  unfold ru0
  rw [List.getElem?_append_right (by omega), n0, Nat.sub_self]
  rfl
theorem ru_keeps {G Gi : List Ob} {M : DiskM} {R : RefM} (h : TStep (G.length + 2) (G.length + 3) (newM G.length) ref0 (ru0 G) M R Gi) : Keeps G Gi := fun n o ho => by
  have hl := (List.getElem?_eq_some_iff.1 ho).1
  have h0 : (ru0 G)[n]? = some o := by unfold ru0; rw [List.getElem?_append_left (by rw [newG_length]; omega)]; exact new_keeps G n o ho
  exact h.fr.2 n o h0 (by omega) (by show n ≠ G.length; omega) (by show n ≠ G.length + 1; omega) (by omega)
def Small (L : List OD) (i : Nat) : Prop := ∀ (j : Nat) x, j < i → L[j]? = some x → x.bs.length + x.ks.length ≤ 16384
def ruI3 (L : List OD) (nv : Nat) (ρ : Env) : Prop := ∃ i : Nat, ∃ n : Int, ρ.i nv = n ∧ ρ.i (nv + 1) = i ∧ i ≤ L.length ∧ 0 ≤ n ∧ n ≤ 16384 ∧ Small L i
def ruI6 (G : List Ob) (L : List OD) (nv : Nat) (ρ : Env) : Prop := ∃ Gi M R, ∃ i : Nat, ρ.g (nv + 999) = encG Gi ∧ ρ.i nv = i ∧ i ≤ L.length ∧ TStep (G.length + 2) (G.length + 3) (newM G.length) ref0 (ru0 G) M R Gi ∧ Same M R
def ruI2 (G : List Ob) (nv : Nat) (ρ : Env) : Prop := ∃ Gi M R, ρ.g (nv + 999) = encG Gi ∧ -1 ≤ ρ.i nv ∧ ρ.i nv ≤ 513 ∧ TStep (G.length + 2) (G.length + 3) (newM G.length) ref0 (ru0 G) M R Gi ∧ Same M R
def ruLQ (G : List Ob) (L : List OD) : LoopS :=
  ⟨fun j nv ρ => match j with | 3 => ruI3 L nv ρ | 6 => ruI6 G L nv ρ | _ => ruI2 G nv ρ,
   fun j nv ρ => match j with | 3 => (L.length - ρ.i (nv + 1)).toNat | 6 => (L.length - ρ.i nv).toNat | _ => (513 - ρ.i nv).toNat⟩
def treeRuns : Tree :=
 (.call 0 1200 [(.var 199)]
 (.loop 3 11200 [(11200, (.int .i64 (.lit 0))), (11201, (.int .i64 (.lit 0)))]
 (.call 3 14200 [(.hnd 0), (.var 2199)]
 (.split (.cmp .lss (.var 11201) (.var 14200))
 (.call 4 19200 [(.hnd 0), (.int .i64 (.var 11201)), (.var 2199)]
 (.call 13 21200 [(.pla (.var 19200) (.var 19201) 2), (.var 2199)]
 (.call 15 22200 [(.hnd 21200), (.var 2199)]
 (.call 4 26200 [(.hnd 0), (.int .i64 (.var 11201)), (.var 2199)]
 (.call 14 28200 [(.pla (.var 26200) (.var 26201) 3), (.var 2199)]
 (.call 16 29200 [(.hnd 28200), (.var 2199)]
 (.split (.cmp .gtr (.bin .add .i64 (.bin .add .i64 (.var 11200) (.var 22200)) (.var 29200)) (.lit 16384))
 (.call 1 44200 [(.var 2199)]
 (leafG (.bool (.var 44200)) .nil 45199))
 (.again 3 11200 [(11200, (.int .i64 (.bin .add .i64 (.bin .add .i64 (.var 11200) (.var 22200)) (.var 29200)))), (11201, (.int .i64 (.bin .add .i64 (.var 11201) (.lit 1))))]))))))))
 (.call 3 17200 [(.hnd 0), (.var 2199)]
 (.split (.cmp .gtr (.var 17200) (.lit 150))
 (.call 1 29200 [(.var 2199)]
 (leafG (.bool (.var 29200)) .nil 30199))
 (.call 2 26200 [(.var 2199)]
 (.loop 6 29200 [(29200, (.int .i64 (.lit 0))), (30199, (.var 27199))]
 (.call 3 32200 [(.hnd 0), (.var 30199)]
 (.split (.cmp .lss (.var 29200) (.var 32200))
 (.call 4 38200 [(.hnd 0), (.int .i64 (.var 29200)), (.var 30199)]
 (.call 5 39200 [(.pla (.var 38200) (.var 38201) 0), (.var 30199)]
 (.call 6 40200 [(.pla (.var 1200) (.lit 0) 0), (.pla (.var 26200) (.lit 0) 0), (.agg ([(.int .i64 (.var 39200)), (.int .i64 (.var 39201)), (.hnd 39202), (.hnd 39203)])), (.var 30199)]
 (.split (.var 40200)
 (.call 4 47200 [(.hnd 0), (.int .i64 (.var 29200)), (.var 41199)]
 (.call 12 49200 [(.pla (.var 47200) (.var 47201) 1), (.var 41199)]
 (.call 7 50200 [(.pla (.var 1200) (.lit 0) 0), (.pla (.var 26200) (.lit 0) 0), (.int .i64 (.var 49200)), (.var 41199)]
 (.split (.var 50200)
 (.again 6 29200 [(29200, (.int .i64 (.bin .add .i64 (.var 29200) (.lit 1)))), (30199, (.var 51199))])
 (leafG (.bool (.lit false)) .nil 51199)))))
 (leafG (.bool (.lit false)) .nil 41199)))))
 (.loop 2 39200 [(39200, (.int .i64 (.lit (-1)))), (40199, (.var 30199))]
 (.split (.cmp .leq (.var 39200) (.lit 512))
 (.call 7 45200 [(.pla (.var 1200) (.lit 0) 0), (.pla (.var 26200) (.lit 0) 0), (.int .i64 (.var 39200)), (.var 40199)]
 (.split (.var 45200)
 (.again 2 39200 [(39200, (.int .i64 (.bin .add .i64 (.var 39200) (.lit 1)))), (40199, (.var 46199))])
 (leafG (.bool (.lit false)) .nil 46199)))
 (.call 8 43200 [(.pla (.var 1200) (.lit 0) 0), (.var 40199)]
 (.call 9 45200 [(.pla (.var 26200) (.lit 0) 0), (.var 44199)]
 (.split (.cmp .eql (.var 43200) (.var 45200))
 (.call 10 49200 [(.pla (.var 1200) (.lit 0) 0), (.var 46199)]
 (.call 11 51200 [(.pla (.var 26200) (.lit 0) 0), (.var 50199)]
 (.split (.iff (.var 49200) (.var 51200))
 (.call 1 59200 [(.var 52199)]
 (leafG (.bool (.var 59200)) .nil 60199))
 (leafG (.bool (.lit false)) .nil 52199))))
 (leafG (.bool (.lit false)) .nil 46199))))))))))))))))
theorem runs_sem {G : List Ob} {v : Value} {L : List OD} (hL : Ops G v L) : treeSem rupS (ruLQ G L) (KL G) ((Env.ofL [v]).st (encG G)) treeRuns := by
  have hs := hL.sl
  have o1 := hs.one
  have hnk : Keeps G (newG G) := new_keeps G
  have worL : ∀ (ρ : Env) (b g : Nat) (Gx : List Ob), ρ.b b = true → ρ.g g = encG Gx → Keeps G Gx → treeSem rupS (ruLQ G L) (KL G) ρ (leafG (.bool (.var b)) .nil g) := fun ρ b g Gx hb hg hk =>
    sem_retL rfl (by show Value.bool (ρ.b b) = _; rw [hb]) hg hk
  refine sem_step G [] ((Env.ofL [.int .i64 (G.length + 2 : Nat)]).ans (encG (newG G))) rfl rfl ⟨rfl, rfl, rfl⟩ ?_
  refine sem_loop (Env.from_ _ 11200 (Env.ofL [.int .i64 0, .int .i64 0])) (Env.from_ag _ _ _) rfl ⟨0, 0, rfl, rfl, Nat.zero_le _, by omega, by omega, fun j x hj => absurd hj (Nat.not_lt_zero j)⟩ (by kernel_rfl) (fun ρ1 ρ2 h => ?_) (fun ρ hag hinv => ?_)
  · show ((L.length : Int) - ρ2.i 11201).toNat = ((L.length : Int) - ρ1.i 11201).toNat
    rw [(h 11201 (by decide)).1]
  obtain ⟨i, n, hn, hi, hil, hn0, hn1, hsm⟩ := hinv
  have hn : ρ.i 11200 = n := hn
  have hi : ρ.i 11201 = i := hi
  have xd : ρ.i 1200 = (G.length + 2 : Nat) := (hag 1200 (by decide)).1
  have x0 : ρ.v 0 = v := (hag 0 (by decide)).2.2
  have hg : ρ.g 2199 = encG (newG G) := Env.ag_g hag (show 2199 < 11200 by decide)
  clear hag
  have hsn := sl_keep hnk hs
  refine sem_step (newG G) [v] (Env.ofL [.int .i64 L.length]) rfl (by show [oneOf (ρ.v 0), ρ.g 2199] = _; rw [x0, hg, oneOf_eq o1]; rfl) ⟨v, 4, _, _, rfl, hsn, rfl⟩ ?_
  refine sem_split (fun hc => ?_) (fun hc => ?_)
  · have hc : ρ.i 11201 < (L.length : Int) := of_decide_eq_true hc
    have hiL : i < L.length := by omega
    obtain ⟨x, hx⟩ : ∃ x, x = L[i] := ⟨_, rfl⟩
    have hxm : x ∈ L := by rw [hx]; exact List.getElem_mem _
    obtain ⟨hb, hk, lb, lk, _⟩ := hL.body x hxm
    have hb' := body_keep hnk hb
    have hk' := hk.keep (keeps_rv hnk)
    obtain ⟨m, p, all, q1, q2, q3, q4⟩ := sl_at hsn (by decide) (i := ρ.i 11201) (by omega) hc
    have at_ : ∀ j, j < 4 → all[p + j]? = x.cells[j]? := fun j hj => by rw [q4 j hj, hi, Int.toNat_natCast, rowO_at hiL hj, hx]
    refine sem_step (newG G) [v, .int .i64 (ρ.i 11201)] _ rfl (by show [oneOf (ρ.v 0), Value.int .i64 (ρ.i 11201), ρ.g 2199] = _; rw [x0, hg, oneOf_eq o1]; rfl) q1 ?_
    refine sem_step (newG G) [tokAt m (p + 2)] (Env.ofL [x.vB]) rfl (by show [tokAt m (p + 2), ρ.g 2199] = _; rw [hg]; rfl) ⟨m, p + 2, all, x.vB, rfl, q2, at_ 2 (by decide), oneOf_eq hb.one⟩ ?_
    refine sem_step (newG G) [x.vB] (Env.ofL [.int .i64 x.bs.length]) rfl (by show [oneOf x.vB, ρ.g 2199] = _; rw [oneOf_eq hb.one, hg]; rfl) ⟨_, 1, _, _, rfl, hb'.sl, rfl⟩ ?_
    refine sem_step (newG G) [v, .int .i64 (ρ.i 11201)] _ rfl (by show [oneOf (ρ.v 0), Value.int .i64 (ρ.i 11201), ρ.g 2199] = _; rw [x0, hg, oneOf_eq o1]; rfl) q1 ?_
    refine sem_step (newG G) [tokAt m (p + 3)] (Env.ofL [x.vK]) rfl (by show [tokAt m (p + 3), ρ.g 2199] = _; rw [hg]; rfl) ⟨m, p + 3, all, x.vK, rfl, q2, at_ 3 (by decide), oneOf_eq hk.sl.one⟩ ?_
    refine sem_step (newG G) [x.vK] (Env.ofL [.int .i64 x.ks.length]) rfl (by show [oneOf x.vK, ρ.g 2199] = _; rw [oneOf_eq hk.sl.one, hg]; rfl) ⟨_, 1, _, _, rfl, hk'.sl, rfl⟩ ?_
    have hw : IntKind.i64.wrap (IntKind.i64.wrap (ρ.i 11200 + x.bs.length) + x.ks.length) = n + x.bs.length + x.ks.length := by
      rw [hn, wrap_in (k := n + x.bs.length) (by omega) (by omega), wrap_in (by omega) (by omega)]
    refine sem_split (fun h => ?_) (fun h => ?_)
    · refine sem_step (newG G) [] ((Env.ofL [.bool true]).ans (encG (w16 (newG G)))) rfl (by show [ρ.g 2199] = _; rw [hg]; rfl) ⟨rfl, rfl, rfl⟩ ?_
      exact worL _ _ _ (w16 (newG G)) rfl rfl fun n o ho => wor_keeps _ _ _ (hnk n o ho)
    · have h : ¬ IntKind.i64.wrap (IntKind.i64.wrap (ρ.i 11200 + x.bs.length) + x.ks.length) > 16384 := of_decide_eq_false h
      rw [hw] at h
      have hi1 : IntKind.i64.wrap (ρ.i 11201 + 1) = (i : Int) + 1 := by
        have := hL.len
        rw [hi, wrap_in (by omega) (by omega)]
      refine sem_again (Env.from_ _ 11200 (Env.ofL [.int .i64 (n + x.bs.length + x.ks.length), .int .i64 ((i : Int) + 1)])) (Env.from_ag _ _ _) ?_ ⟨i + 1, n + x.bs.length + x.ks.length, rfl, ?_, hiL, by omega, by omega, fun j y hj hy => ?_⟩ ?_
      · show [Value.int .i64 (n + x.bs.length + x.ks.length), Value.int .i64 ((i : Int) + 1)] = [Value.int .i64 (IntKind.i64.wrap (IntKind.i64.wrap (ρ.i 11200 + x.bs.length) + x.ks.length)), Value.int .i64 (IntKind.i64.wrap (ρ.i 11201 + 1))]
        rw [hw, hi1]
      · show (i : Int) + 1 = _
        simp
      · by_cases e : j = i
        · subst e
          rw [List.getElem?_eq_getElem hiL] at hy
          cases hy
          rw [← hx]
          omega
        · exact hsm j y (by omega) hy
      · show ((L.length : Int) - ((i : Int) + 1)).toNat < ((L.length : Int) - ρ.i 11201).toNat
        omega
  have hc : ¬ ρ.i 11201 < (L.length : Int) := of_decide_eq_false hc
  have hie : i = L.length := by omega
  rw [hie] at hsm
  refine sem_step (newG G) [v] (Env.ofL [.int .i64 L.length]) rfl (by show [oneOf (ρ.v 0), ρ.g 2199] = _; rw [x0, hg, oneOf_eq o1]; rfl) ⟨v, 4, _, _, rfl, hsn, rfl⟩ ?_
  refine sem_split (fun h => ?_) (fun h => ?_)
  · refine sem_step (newG G) [] ((Env.ofL [.bool true]).ans (encG (w16 (newG G)))) rfl (by show [ρ.g 2199] = _; rw [hg]; rfl) ⟨rfl, rfl, rfl⟩ ?_
    exact worL _ _ _ (w16 (newG G)) rfl rfl fun n o ho => wor_keeps _ _ _ (hnk n o ho)
  have hl : ¬ (L.length : Int) > 150 := of_decide_eq_false h
  refine sem_step (newG G) [] ((Env.ofL [.int .i64 (G.length + 3 : Nat)]).ans (encG (ru0 G))) rfl (by show [ρ.g 2199] = _; rw [hg]; rfl) ⟨rfl, by rw [newG_length]; rfl, rfl⟩ ?_
  refine sem_loop (Env.from_ _ 29200 ((Env.ofL [.int .i64 0]).ans (encG (ru0 G)))) (Env.from_ag _ _ _) rfl ⟨_, _, _, 0, rfl, rfl, Nat.zero_le _, TStep.refl (ru0_two G), same_new _⟩ (by kernel_rfl) (fun ρ1 ρ2 h => ?_) (fun ρ1 hag hinv => ?_)
  · show ((L.length : Int) - ρ2.i 29200).toNat = ((L.length : Int) - ρ1.i 29200).toNat
    rw [(h 29200 (by decide)).1]
  obtain ⟨Gi, M, R, j, hg1, hj, hjl, hT, hS⟩ := hinv
  have hg1 : ρ1.g 30199 = encG Gi := hg1
  have hj : ρ1.i 29200 = j := hj
  have yd : ρ1.i 1200 = (G.length + 2 : Nat) := (hag 1200 (by decide)).1.trans xd
  have yy : ρ1.i 26200 = (G.length + 3 : Nat) := (hag 26200 (by decide)).1
  have y0 : ρ1.v 0 = v := (hag 0 (by decide)).2.2.trans x0
  clear hag
  have hK := ru_keeps hT
  have hsi := sl_keep hK hs
  refine sem_step Gi [v] (Env.ofL [.int .i64 L.length]) rfl (by show [oneOf (ρ1.v 0), ρ1.g 30199] = _; rw [y0, hg1, oneOf_eq o1]; rfl) ⟨v, 4, _, _, rfl, hsi, rfl⟩ ?_
  refine sem_split (fun hc => ?_) (fun hc => ?_)
  · have hc : ρ1.i 29200 < (L.length : Int) := of_decide_eq_true hc
    have hiL : j < L.length := by omega
    obtain ⟨x, hx⟩ : ∃ x, x = L[j] := ⟨_, rfl⟩
    have hxm : x ∈ L := by rw [hx]; exact List.getElem_mem _
    obtain ⟨hb, hk, lb, lk, h63⟩ := hL.body x hxm
    have hlen := hsm j x hiL (by rw [hx]; exact List.getElem?_eq_getElem hiL)
    have sB : SlK Gi x.vB 1 x.bs.length (u8s x.bs) := fun G' hk' => (show Body G' x.vB x.bs from (body_keep hK hb).imp id fun ⟨n, h1, h2⟩ => ⟨n, h1, hk' _ _ h2 (fun c e => by cases e) (fun c e => by cases e)⟩).sl
    have sK : SlK Gi x.vK 1 x.ks.length (x.ks.map (Value.int .i64)) := fun G' hk' => ((hk.keep (keeps_rv hK)).keep hk').sl
    obtain ⟨m, p, all, q1, q2, q3, q4⟩ := sl_at hsi (by decide) (i := ρ1.i 29200) (by omega) hc
    have at_ : ∀ k, k < 4 → all[p + k]? = x.cells[k]? := fun k hk => by rw [q4 k hk, hj, Int.toNat_natCast, rowO_at hiL hk, hx]
    have e4 : (all.drop p).take 4 = x.cells := by
      apply List.ext_getElem?
      intro k
      by_cases hk : k < 4
      · rw [List.getElem?_take_of_lt hk, List.getElem?_drop, at_ k hk]
      · rw [List.getElem?_eq_none (by rw [List.length_take]; omega), List.getElem?_eq_none (by show 4 ≤ k; omega)]
    obtain ⟨hA, _, _⟩ := do_at hT.two x.kd x.i x.vB x.vK x.bs x.ks
    obtain ⟨st, sm⟩ := do_step (Gb := doB Gi x.kd x.i x.vB x.vK x.bs x.ks) (db := doDb Gi x.kd x.i x.vB x.vK x.bs) (dk := doDk Gi x.kd x.i x.vB x.vK x.bs x.ks) (B := x.bs) (K := x.ks) hA.st.two hS (pickI x.kd 5) h63
    have hE := do_end hT.two hA st sm sB sK (by omega) (by omega)
    obtain ⟨M', hM'⟩ : ∃ M', M' = (doS' Gi (G.length + 2) (G.length + 3) M R x.kd x.i x.vB x.vK x.bs x.ks).2.1 := ⟨_, rfl⟩
    obtain ⟨R', hR'⟩ : ∃ R', R' = (doS' Gi (G.length + 2) (G.length + 3) M R x.kd x.i x.vB x.vK x.bs x.ks).2.2 := ⟨_, rfl⟩
    obtain ⟨Ge, hGe⟩ : ∃ Ge, Ge = (doS' Gi (G.length + 2) (G.length + 3) M R x.kd x.i x.vB x.vK x.bs x.ks).1 := ⟨_, rfl⟩
    have hE : DoEnd Gi Ge (G.length + 2) (G.length + 3) Gi.length (doDb Gi x.kd x.i x.vB x.vK x.bs) (doDk Gi x.kd x.i x.vB x.vK x.bs x.ks) M' R' x.kd x.i x.vB x.vK x.bs x.ks := by rw [hGe, hM', hR']; exact hE
    have st : TStep (G.length + 2) (G.length + 3) M R Gi M' R' Ge := by rw [hGe, hM', hR']; exact hA.st.trans st
    obtain ⟨Gd, hGd⟩ : ∃ x', x' = doG Gi (G.length + 2) (G.length + 3) M R x.kd x.i x.vB x.vK x.bs x.ks := ⟨_, rfl⟩
    have eGd : Gd = endG Ge (doDb Gi x.kd x.i x.vB x.vK x.bs) (doDk Gi x.kd x.i x.vB x.vK x.bs x.ks) x.bs x.ks := by rw [hGd, hGe]; rfl
    have stD : TStep (G.length + 2) (G.length + 3) M R Gi M' R' Gd := by rw [eGd]; exact do_done hA hE st
    have hT' := hT.trans stD
    obtain ⟨k3, k4, l4⟩ := re_keeps hT'.two x.i
    have hT2 := hT'.trans (TStep.of_keeps hT'.two k4 l4)
    have hsd := sl_keep (ru_keeps hT') hs
    obtain ⟨m', p', all', q1', q2', q3', q4'⟩ := sl_at hsd (by decide) (i := ρ1.i 29200) (by omega) hc
    have at' : ∀ k, k < 4 → all'[p' + k]? = x.cells[k]? := fun k hk => by rw [q4' k hk, hj, Int.toNat_natCast, rowO_at hiL hk, hx]
    refine sem_step Gi [v, .int .i64 (ρ1.i 29200)] _ rfl (by show [oneOf (ρ1.v 0), Value.int .i64 (ρ1.i 29200), ρ1.g 30199] = _; rw [y0, hg1, oneOf_eq o1]; rfl) q1 ?_
    refine sem_step Gi [tokAt m p] (Env.ofL [.int .i64 x.kd, .int .i64 x.i, x.vB, x.vK]) rfl (by show [tokAt m (p + 0), ρ1.g 30199] = _; rw [hg1]; rfl) ⟨m, p, all, rfl, q2, q3, by show Value.agg #[.int .i64 x.kd, .int .i64 x.i, oneOf x.vB, oneOf x.vK] = _; rw [oneOf_eq hb.one, oneOf_eq hk.sl.one, e4]; rfl⟩ ?_
    refine sem_step Gi [tokAt (G.length + 2) 0, tokAt (G.length + 3) 0, .agg #[.int .i64 x.kd, .int .i64 x.i, x.vB, x.vK]] ((Env.ofL [.bool true]).ans (encG Gd)) rfl (by show [tokAt (ρ1.i 1200).toNat 0, tokAt (ρ1.i 26200).toNat 0, Value.agg #[.int .i64 x.kd, .int .i64 x.i, oneOf x.vB, oneOf x.vK], ρ1.g 30199] = _; rw [yd, yy, hg1, oneOf_eq hb.one, oneOf_eq hk.sl.one]; rfl) ⟨_, _, M, R, _, _, _, _, x.bs, x.ks, rfl, hT.two, hS, sB, sK, by omega, by omega, h63, rfl, by rw [hGd]; rfl⟩ ?_
    refine sem_yes rfl ?_
    refine sem_step Gd [v, .int .i64 (ρ1.i 29200)] _ rfl (by show [oneOf (ρ1.v 0), Value.int .i64 (ρ1.i 29200), _] = _; rw [y0, oneOf_eq o1]; rfl) q1' ?_
    refine sem_step Gd [tokAt m' (p' + 1)] (Env.ofL [.int .i64 x.i]) rfl rfl ⟨m', p' + 1, all', _, rfl, q2', at' 1 (by decide), rfl⟩ ?_
    refine sem_step Gd [tokAt (G.length + 2) 0, tokAt (G.length + 3) 0, .int .i64 x.i] ((Env.ofL [.bool true]).ans (encG (reG Gd M' R' x.i))) rfl (by show [tokAt (ρ1.i 1200).toNat 0, tokAt (ρ1.i 26200).toNat 0, _, _] = _; rw [yd, yy]; rfl) ⟨_, _, M', R', _, rfl, hT'.two, hE.sm, rfl, rfl⟩ ?_
    refine sem_yes rfl ?_
    refine sem_again (Env.from_ _ 29200 ((Env.ofL [.int .i64 ((j : Int) + 1)]).ans (encG (reG Gd M' R' x.i)))) (Env.from_ag _ _ _) ?_ ⟨_, M', R', j + 1, rfl, ?_, hiL, hT2, hE.sm⟩ ?_
    · show [Value.int .i64 ((j : Int) + 1), encG _] = [Value.int .i64 (IntKind.i64.wrap (ρ1.i 29200 + 1)), encG _]
      rw [hj, wrap_in (by omega) (by omega)]
    · show (j : Int) + 1 = _
      simp
    · show ((L.length : Int) - ((j : Int) + 1)).toNat < ((L.length : Int) - ρ1.i 29200).toNat
      omega
  refine sem_loop (Env.from_ _ 39200 ((Env.ofL [.int .i64 (-1)]).ans (encG Gi))) (Env.from_ag _ _ _) (by show [Value.int .i64 (-1), encG Gi] = [Value.int .i64 (-1), ρ1.g 30199]; rw [hg1]) ⟨Gi, M, R, rfl, by show (-1 : Int) ≤ -1; omega, by show (-1 : Int) ≤ 513; omega, hT, hS⟩ (by kernel_rfl) (fun ρ1 ρ2 h => ?_) (fun ρ2 hag hinv => ?_)
  · show ((513 : Int) - ρ2.i 39200).toNat = ((513 : Int) - ρ1.i 39200).toNat
    rw [(h 39200 (by decide)).1]
  obtain ⟨Gk, M, R, hg2, hk0, hk1, hT, hS⟩ := hinv
  have hg2 : ρ2.g 40199 = encG Gk := hg2
  have hk0 : -1 ≤ ρ2.i 39200 := hk0
  have hk1 : ρ2.i 39200 ≤ 513 := hk1
  have zd : ρ2.i 1200 = (G.length + 2 : Nat) := (hag 1200 (by decide)).1.trans yd
  have zy : ρ2.i 26200 = (G.length + 3 : Nat) := (hag 26200 (by decide)).1.trans yy
  clear hag
  refine sem_split (fun hc => ?_) (fun hc => ?_)
  · have hc : ρ2.i 39200 ≤ 512 := of_decide_eq_true hc
    obtain ⟨k3, k4, l4⟩ := re_keeps hT.two (ρ2.i 39200)
    refine sem_step Gk [tokAt (G.length + 2) 0, tokAt (G.length + 3) 0, .int .i64 (ρ2.i 39200)] ((Env.ofL [.bool true]).ans (encG (reG Gk M R (ρ2.i 39200)))) rfl (by show [tokAt (ρ2.i 1200).toNat 0, tokAt (ρ2.i 26200).toNat 0, _, ρ2.g 40199] = _; rw [zd, zy, hg2]; rfl) ⟨_, _, M, R, _, rfl, hT.two, hS, rfl, rfl⟩ ?_
    refine sem_yes rfl ?_
    refine sem_again (Env.from_ _ 39200 ((Env.ofL [.int .i64 (ρ2.i 39200 + 1)]).ans (encG (reG Gk M R (ρ2.i 39200))))) (Env.from_ag _ _ _) ?_ ⟨_, M, R, rfl, ?_, ?_, hT.trans (TStep.of_keeps hT.two k4 l4), hS⟩ ?_
    · show [Value.int .i64 (ρ2.i 39200 + 1), encG _] = [Value.int .i64 (IntKind.i64.wrap (ρ2.i 39200 + 1)), encG _]
      rw [wrap_in (by omega) (by omega)]
    · show -1 ≤ ρ2.i 39200 + 1
      omega
    · show ρ2.i 39200 + 1 ≤ 513
      omega
    · show ((513 : Int) - (ρ2.i 39200 + 1)).toNat < ((513 : Int) - ρ2.i 39200).toNat
      omega
  · refine sem_step Gk [tokAt (G.length + 2) 0] ((Env.ofL [.int .i64 M.done]).ans (encG Gk)) rfl (by show [tokAt (ρ2.i 1200).toNat 0, ρ2.g 40199] = _; rw [zd, hg2]; rfl) ⟨_, M, rfl, hT.two.dk, rfl, rfl⟩ ?_
    refine sem_step Gk [tokAt (G.length + 3) 0] ((Env.ofL [.int .i64 R.done]).ans (encG Gk)) rfl (by show [tokAt (ρ2.i 26200).toNat 0, _] = _; rw [zy]; rfl) ⟨_, R, rfl, hT.two.rf.at_, rfl, rfl⟩ ?_
    refine sem_yes (by show (M.done == R.done) = true; rw [hS.done]; exact beq_self_eq_true _) ?_
    refine sem_step Gk [tokAt (G.length + 2) 0] ((Env.ofL [.bool M.off]).ans (encG Gk)) rfl (by show [tokAt (ρ2.i 1200).toNat 0, _] = _; rw [zd]; rfl) ⟨_, M, rfl, hT.two.dk, rfl, rfl⟩ ?_
    refine sem_step Gk [tokAt (G.length + 3) 0] ((Env.ofL [.bool R.off]).ans (encG Gk)) rfl (by show [tokAt (ρ2.i 26200).toNat 0, _] = _; rw [zy]; rfl) ⟨_, R, rfl, hT.two.rf.at_, rfl, rfl⟩ ?_
    refine sem_yes (by show (M.off == R.off) = true; rw [hS.off]; exact beq_self_eq_true _) ?_
    refine sem_step Gk [] ((Env.ofL [.bool true]).ans (encG (w16 Gk))) rfl rfl ⟨rfl, rfl, rfl⟩ ?_
    exact worL _ _ _ (w16 _) rfl rfl fun m o ho => wor_keeps _ _ _ (ru_keeps hT m o ho)
theorem Runs_any {w : World} {v : Value} {L : List OpW} (hL : OpsW w v L) : Calls Try.prog 4 #[v] w (Ret (.bool true) w) := by
  obtain ⟨R1, u1, K1, p1⟩ := ops_part hL 0
  obtain ⟨b1, c1, d1, e1⟩ := p1 R1 (by have := At.mid [] R1 []; rwa [List.nil_append, List.append_nil] at this)
  have H := rows_objs (w := w) (R := R1) b1
  have o1 := c1.sl.one
  have := law_of_run (P := Try.prog) (cs := rup) (S := rupS) (LT := [(6, ⟨[(5, fun b => .int .i64 (.var b))], [], [], true⟩), (3, ⟨[(3, fun b => .int .i64 (.var b)), (4, fun b => .int .i64 (.var (b + 1)))], [], [], false⟩), (2, ⟨[(5, fun b => .int .i64 (.var b))], [], [], true⟩)]) (depth := 2) (fuel := 20) (nv := 200) (f := 4) (av := [.hnd 0]) (T := treeRuns) rup_holds (by kernel_rfl) (by kernel_rfl) (by kernel_rfl) (vs := [u1]) H (ro_all R1)
    (fun u hu => by
      rw [List.length_map]
      simp only [List.mem_cons, List.not_mem_nil, or_false] at hu
      subst hu
      exact e1)
    ⟨_, (Env.ofL [u1]).st (encG (R1.map RoW.ob)), by show _ = [oneOf u1]; rw [oneOf_eq o1], rfl, runs_sem c1⟩
  rw [← d1]
  exact this
end Go.Proofs.Ytcedgoaanlbldaa
