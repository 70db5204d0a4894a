/- What is proved: the walk of DiskStrikes. No condition but those each law names. -/
import Derived.Test.YtcedgoaanlbldaaB4
import Derived.Test.YtcedgoaanlbldaaT1
namespace Go.Proofs.Ytcedgoaanlbldaa
open Sx hiding Sl
set_option maxRecDepth 100000

theorem pick_rng {a b : Int} (h1 : 1 ≤ b) (h2 : b ≤ 1000000) : 0 ≤ pickI a b ∧ pickI a b < b := by
  unfold pickI
  rw [if_neg (by omega)]
  have g1 := Int.tmod_lt_of_pos a (show 0 < b by omega)
  have g2 := Int.lt_tmod_of_pos a (show 0 < b by omega)
  split
  · rw [wrap_in (by omega) (by omega)]
    omega
  · omega
theorem sem_yes {S : List ConS} {LQ : LoopS} {K : Env → Ex → St → Prop} {ρ : Env} {c : C} {t f : Tree} (h : c.den ρ = true) (ht : treeSem S LQ K ρ t) : treeSem S LQ K ρ (.split c t f) :=
  sem_split (fun _ => ht) (fun h' => by rw [h] at h'; cases h')
theorem sem_no {S : List ConS} {LQ : LoopS} {K : Env → Ex → St → Prop} {ρ : Env} {c : C} {t f : Tree} (h : c.den ρ = false) (ht : treeSem S LQ K ρ f) : treeSem S LQ K ρ (.split c t f) :=
  sem_split (fun h' => by rw [h] at h'; cases h') (fun _ => ht)
theorem body_keep {G G' : List Ob} (h : Keeps G G') {v : Value} {bs : List Int} (hb : Body G v bs) : Body G' v bs := hb.imp id fun ⟨k, h1, h2⟩ => ⟨k, h1, h _ _ h2⟩
/-- Where a Put's bytes lie, while a disk turns. -/
theorem pl_frd {G G' : List Ob} {d : Nat} {M : DiskM} {i : Int} {v : Value} {bs : List Int} (hb : Body G v bs) (hd : IsDisk (plG G i v bs.length) d M) (hf : FrD d M (plG G i v bs.length) G') : Sx.Sl G' (plV G v) 1 (cut128 bs).length (u8s (cut128 bs)) := by
  refine pl_sl (i := i) hb fun n hn => ?_
  have hne : ∀ o, (plG G i v bs.length)[n]? = some o → (∀ c, o ≠ .ptr c) → (∀ c, o ≠ .map c) → G'[n]? = (plG G i v bs.length)[n]? := fun o ho h1 h2 => by
    rw [ho]
    refine hf.2 n o ho (fun e => ?_) (fun e => ?_) (fun e => ?_)
    · subst e; rw [hd.ob] at ho; cases ho; exact h1 _ rfl
    · subst e; rw [hd.ma] at ho; cases ho; exact h2 _ rfl
    · subst e; rw [hd.mo] at ho; cases ho; exact h2 _ rfl
  rcases hn with ⟨s, l, c, h⟩ | ⟨m, s, k, l, h⟩
  · exact hne _ h (fun c e => by cases e) (fun c e => by cases e)
  · exact hne _ h (fun c e => by cases e) (fun c e => by cases e)
def stp : List Con := [newC, wrC, sycC, rdsC, craC, countC, downC, armC, pickC, plaC, worC, lenC 22, idxC 22, loadC 33 (.agg (putE 0))]
def stpS : List ConS := [conR newR, conR wrR, conR sycR, conR rdsR, conR craR, conR countR, conR downR, conR armR, pickS, conR plaR, conR worR, conR lenR, conR (idxR 2), conR (loadRowR 2 (.agg (putE 0)))]
theorem stp_holds : Cons Try.prog stp stpS :=
  ⟨new_holds, wr_holds, sync_holds, rds_holds, cra_holds, count_holds, down_holds, arm_holds, pick_holds, pla_holds, wor_holds, len_holds Try.underlying22, idx_holds Try.underlying22 (by kernel_rfl), loadRow_holds (by kernel_rfl) (by kernel_rfl) rfl, trivial⟩
def stInv (G : List Ob) (L n : Nat) (nv : Nat) (ρ : Env) : Prop := ∃ (Gi : List Ob) (M : DiskM) (i : Nat), ρ.g (nv + 999) = encG Gi ∧ ρ.i nv = i ∧ i ≤ L ∧ DStep (G.length + 2) (newM G.length) (newG G) M Gi ∧ SS n i M
def stLQ (G : List Ob) (L n : Nat) : LoopS := ⟨fun _ nv ρ => stInv G L n nv ρ, fun _ nv ρ => (L - ρ.i nv).toNat⟩
theorem Puts.sl {G : List Ob} {v : Value} {L : List PD} (h : Puts G v L) : Sx.Sl G v 2 L.length (rowP L) := by
  rcases h.row with ⟨rfl, rfl⟩ | ⟨d, rfl, hd⟩
  · exact .inl ⟨rfl, rfl, rfl⟩
  · exact .inr ⟨d, 0, _, ⟨d, rfl, .inl ⟨_, .inr hd, rfl, rfl⟩⟩, by unfold cellsAt; rw [hd]; rfl, by rw [rowP_length]; omega, by rw [List.drop_zero, List.take_of_length_le (by rw [rowP_length]; omega)]⟩
theorem rowP_at {L : List PD} {i j : Nat} (hi : i < L.length) (hj : j < 2) : (rowP L)[i * 2 + j]? = L[i].cells[j]? := by
  rw [rowP_get, show (i * 2 + j) / 2 = i by omega, show (i * 2 + j) % 2 = j by omega, List.getElem?_eq_getElem hi]
  rfl
def treeStrikes : Tree :=
 (.call 0 1200 [(.var 199)]
 (.call 11 4200 [(.hnd 1), (.var 2199)]
 (.split (.cmp .gtr (.var 4200) (.lit 100))
 (.call 10 6200 [(.var 2199)]
 (leafG (.bool (.var 6200)) .nil 7199))
 (.call 8 7200 [(.int .i64 (.var 0)), (.int .i64 (.lit 110))]
 (.call 7 11200 [(.pla (.var 1200) (.lit 0) 0), (.int .i64 (.var 7200)), (.var 2199)]
 (.loop 7 13200 [(13200, (.int .i64 (.lit 0))), (14199, (.var 12199))]
 (.call 11 16200 [(.hnd 1), (.var 14199)]
 (.split (.cmp .lss (.var 13200) (.var 16200))
 (.call 12 20200 [(.hnd 1), (.int .i64 (.var 13200)), (.var 14199)]
 (.call 13 21200 [(.pla (.var 20200) (.var 20201) 0), (.var 14199)]
 (.call 9 22200 [(.agg ([(.int .i64 (.var 21200)), (.hnd 21201)])), (.var 14199)]
 (.split (.cmp .eql (.bin .rem .i64 (.var 13200) (.lit 3)) (.lit 2))
 (.call 2 33200 [(.pla (.var 1200) (.lit 0) 0), (.var 23199)]
 (.split (.iff (.cmp .eql (.var 33200) (.lit 0)) (.cmp .lss (.var 13200) (.var 7200)))
 (.split (.cmp .eql (.var 33200) (.lit 0))
 (.call 6 51200 [(.pla (.var 1200) (.lit 0) 0), (.var 34199)]
 (.split (.iff (.var 51200) (.cmp .geq (.var 13200) (.var 7200)))
 (.again 7 13200 [(13200, (.int .i64 (.bin .add .i64 (.var 13200) (.lit 1)))), (14199, (.var 52199))])
 (leafG (.bool (.lit false)) .nil 52199)))
 (.split (.cmp .eql (.var 33200) (.lit 9))
 (.call 6 51200 [(.pla (.var 1200) (.lit 0) 0), (.var 34199)]
 (.split (.iff (.var 51200) (.cmp .geq (.var 13200) (.var 7200)))
 (.again 7 13200 [(13200, (.int .i64 (.bin .add .i64 (.var 13200) (.lit 1)))), (14199, (.var 52199))])
 (leafG (.bool (.lit false)) .nil 52199)))
 (leafG (.bool (.lit false)) .nil 34199)))
 (leafG (.bool (.lit false)) .nil 34199)))
 (.call 1 35200 [(.pla (.var 1200) (.lit 0) 0), (.int .i64 (.var 22200)), (.hnd 22201), (.var 23199)]
 (.split (.cmp .leq (.var 13200) (.var 7200))
 (.call 3 44200 [(.pla (.var 1200) (.lit 0) 0), (.int .i64 (.var 22200)), (.hnd 22201), (.var 36199)]
 (.split (.var 44200)
 (.split (.iff (.cmp .eql (.var 35200) (.lit 0)) (.cmp .lss (.var 13200) (.var 7200)))
 (.split (.cmp .eql (.var 35200) (.lit 0))
 (.call 6 63200 [(.pla (.var 1200) (.lit 0) 0), (.var 45199)]
 (.split (.iff (.var 63200) (.cmp .geq (.var 13200) (.var 7200)))
 (.again 7 13200 [(13200, (.int .i64 (.bin .add .i64 (.var 13200) (.lit 1)))), (14199, (.var 64199))])
 (leafG (.bool (.lit false)) .nil 64199)))
 (.split (.cmp .eql (.var 35200) (.lit 9))
 (.call 6 63200 [(.pla (.var 1200) (.lit 0) 0), (.var 45199)]
 (.split (.iff (.var 63200) (.cmp .geq (.var 13200) (.var 7200)))
 (.again 7 13200 [(13200, (.int .i64 (.bin .add .i64 (.var 13200) (.lit 1)))), (14199, (.var 64199))])
 (leafG (.bool (.lit false)) .nil 64199)))
 (leafG (.bool (.lit false)) .nil 45199)))
 (leafG (.bool (.lit false)) .nil 45199))
 (leafG (.bool (.lit false)) .nil 45199)))
 (.split (.iff (.cmp .eql (.var 35200) (.lit 0)) (.cmp .lss (.var 13200) (.var 7200)))
 (.split (.cmp .eql (.var 35200) (.lit 0))
 (.call 6 63200 [(.pla (.var 1200) (.lit 0) 0), (.var 36199)]
 (.split (.iff (.var 63200) (.cmp .geq (.var 13200) (.var 7200)))
 (.again 7 13200 [(13200, (.int .i64 (.bin .add .i64 (.var 13200) (.lit 1)))), (14199, (.var 64199))])
 (leafG (.bool (.lit false)) .nil 64199)))
 (.split (.cmp .eql (.var 35200) (.lit 9))
 (.call 6 63200 [(.pla (.var 1200) (.lit 0) 0), (.var 36199)]
 (.split (.iff (.var 63200) (.cmp .geq (.var 13200) (.var 7200)))
 (.again 7 13200 [(13200, (.int .i64 (.bin .add .i64 (.var 13200) (.lit 1)))), (14199, (.var 64199))])
 (leafG (.bool (.lit false)) .nil 64199)))
 (leafG (.bool (.lit false)) .nil 36199)))
 (leafG (.bool (.lit false)) .nil 36199))))))))
 (.call 11 19200 [(.hnd 1), (.var 14199)]
 (.call 11 25200 [(.hnd 1), (.var 14199)]
 (.split (.cmp .lss (.var 7200) (.var 25200))
 (.split (.cmp .eql (.bin .rem .i64 (.var 7200) (.lit 3)) (.lit 2))
 (.call 5 33200 [(.pla (.var 1200) (.lit 0) 0), (.var 14199)]
 (.split (.cmp .eql (.var 33200) (.mn (.var 19200) (.var 7200)))
 (.call 4 37200 [(.pla (.var 1200) (.lit 0) 0), (.lit (.slice none 0 0)), (.var 34199)]
 (.call 6 39200 [(.pla (.var 1200) (.lit 0) 0), (.var 38199)]
 (.split (.var 39200)
 (leafG (.bool (.lit false)) .nil 40199)
 (.call 2 43200 [(.pla (.var 1200) (.lit 0) 0), (.var 40199)]
 (.split (.cmp .eql (.var 43200) (.lit 0))
 (.call 10 47200 [(.var 44199)]
 (leafG (.bool (.var 47200)) .nil 48199))
 (leafG (.bool (.lit false)) .nil 44199))))))
 (leafG (.bool (.lit false)) .nil 34199)))
 (.call 5 36200 [(.pla (.var 1200) (.lit 0) 0), (.var 14199)]
 (.split (.cmp .eql (.var 36200) (.bin .add .i64 (.mn (.var 19200) (.var 7200)) (.lit 1)))
 (.call 4 40200 [(.pla (.var 1200) (.lit 0) 0), (.lit (.slice none 0 0)), (.var 37199)]
 (.call 6 42200 [(.pla (.var 1200) (.lit 0) 0), (.var 41199)]
 (.split (.var 42200)
 (leafG (.bool (.lit false)) .nil 43199)
 (.call 2 46200 [(.pla (.var 1200) (.lit 0) 0), (.var 43199)]
 (.split (.cmp .eql (.var 46200) (.lit 0))
 (.call 10 50200 [(.var 47199)]
 (leafG (.bool (.var 50200)) .nil 51199))
 (leafG (.bool (.lit false)) .nil 47199))))))
 (leafG (.bool (.lit false)) .nil 37199))))
 (.call 5 33200 [(.pla (.var 1200) (.lit 0) 0), (.var 14199)]
 (.split (.cmp .eql (.var 33200) (.mn (.var 19200) (.var 7200)))
 (.call 4 37200 [(.pla (.var 1200) (.lit 0) 0), (.lit (.slice none 0 0)), (.var 34199)]
 (.call 6 39200 [(.pla (.var 1200) (.lit 0) 0), (.var 38199)]
 (.split (.var 39200)
 (leafG (.bool (.lit false)) .nil 40199)
 (.call 2 43200 [(.pla (.var 1200) (.lit 0) 0), (.var 40199)]
 (.split (.cmp .eql (.var 43200) (.lit 0))
 (.call 10 47200 [(.var 44199)]
 (leafG (.bool (.var 47200)) .nil 48199))
 (leafG (.bool (.lit false)) .nil 44199))))))
 (leafG (.bool (.lit false)) .nil 34199))))))))))))))
theorem strikes_sem {G : List Ob} {v : Value} {L : List PD} (a : Int) (hL : Puts G v L) : treeSem stpS (stLQ G L.length (pickI a 110).toNat) (KL G) ((Env.ofL [.int .i64 a, v]).st (encG G)) treeStrikes := by
  have hs := hL.sl
  have o1 := hs.one
  have hnk : Keeps G (newG G) := new_keeps G
  have d0 := DStep.refl (new_is G)
  have worL : ∀ (ρ : Env) (b g : Nat) (Gx : List Ob), ρ.b b = true → ρ.g g = encG Gx → Keeps G Gx → treeSem stpS (stLQ G L.length (pickI a 110).toNat) (KL G) ρ (leafG (.bool (.var b)) .nil g) := fun ρ b g Gx hb hg hk =>
    sem_retL rfl (by show Value.bool (ρ.b b) = _; rw [hb]) hg hk
  refine sem_step G [] ((Env.ofL [.int .i64 (G.length + 2 : Nat)]).ans (encG (newG G))) rfl rfl ⟨rfl, rfl, rfl⟩ ?_
  refine sem_step (newG G) [v] (Env.ofL [.int .i64 L.length]) rfl (by show [oneOf v, _] = _; rw [oneOf_eq o1]; rfl) ⟨v, 2, _, _, rfl, sl_keep hnk hs, rfl⟩ ?_
  refine sem_split (fun _ => ?_) (fun hlen => ?_)
  · refine sem_step (newG G) [] ((Env.ofL [.bool true]).ans (encG (w16 (newG G)))) rfl rfl ⟨rfl, rfl, rfl⟩ ?_
    exact worL _ _ _ (w16 (newG G)) rfl rfl fun n o ho => wor_keeps _ _ _ (hnk n o ho)
  have hlen : ¬ ((L.length : Nat) : Int) > 100 := of_decide_eq_false hlen
  have hpn := pick_rng (a := a) (b := 110) (by omega) (by omega)
  obtain ⟨n, hn⟩ : ∃ n, n = (pickI a 110).toNat := ⟨_, rfl⟩
  have hni : pickI a 110 = n := by omega
  rw [← hn]
  refine sem_call pickS (Env.ofL [.int .i64 n]) rfl ⟨a, 110, rfl, hni.symm⟩ ?_
  have harm := arm_step (new_is G) (n := n) (by omega)
  refine sem_step (newG G) [tokAt (G.length + 2) 0, .int .i64 n] ((Env.ofL []).ans (encG (armG (newG G) (G.length + 2) (newM G.length) n))) rfl rfl ⟨_, _, _, rfl, new_is G, rfl⟩ ?_
  have hss : SS n 0 (armM (newM G.length) n) := by
    unfold SS
    rw [if_pos (Nat.zero_le _)]
    refine ⟨rfl, ?_, rfl⟩
    show intMax n (-1) = _
    unfold intMax
    rw [if_neg (by omega)]
    omega
  refine sem_loop (Env.from_ _ 13200 ((Env.ofL [.int .i64 0]).ans (encG (armG (newG G) (G.length + 2) (newM G.length) n)))) (Env.from_ag _ _ _) rfl ⟨_, _, 0, rfl, rfl, Nat.zero_le _, harm, hss⟩ (by kernel_rfl) (fun ρ1 ρ2 h => ?_) (fun ρ hag hinv => ?_)
  · show ((L.length : Int) - ρ2.i 13200).toNat = ((L.length : Int) - ρ1.i 13200).toNat
    rw [(h 13200 (by decide)).1]
  obtain ⟨Gi, M, i, hg, hi, hil, hst, hS⟩ := hinv
  have hg : ρ.g 14199 = encG Gi := hg
  have hi : ρ.i 13200 = i := hi
  have xd : ρ.i 1200 = (G.length + 2 : Nat) := (hag 1200 (by decide)).1
  have xv : ρ.v 1 = v := (hag 1 (by decide)).2.2
  have xn : ρ.i 7200 = n := (hag 7200 (by decide)).1
  have hK := new_fr hst.fr
  have hsi := sl_keep hK hs
  refine sem_step Gi [v] (Env.ofL [.int .i64 L.length]) rfl (by show [oneOf (ρ.v 1), ρ.g 14199] = _; rw [xv, hg, oneOf_eq o1]; rfl) ⟨v, 2, _, _, rfl, hsi, rfl⟩ ?_
  refine sem_split (fun hc => ?_) (fun hc => ?_)
  · have hc : ρ.i 13200 < (L.length : Int) := of_decide_eq_true hc
    have hiL : i < L.length := by omega
    obtain ⟨x, hx⟩ : ∃ x, x = L[i] := ⟨_, rfl⟩
    have hxm : x ∈ L := by rw [hx]; exact List.getElem_mem _
    have hb := body_keep hK (hL.body x hxm).1
    have ox := hb.one
    obtain ⟨m, p, all, q1, q2, q3, q4⟩ := sl_at hsi (by decide) (i := ρ.i 13200) (by omega) hc
    have e4 : (all.drop p).take 2 = x.cells := by
      apply List.ext_getElem?
      intro j
      by_cases hj : j < 2
      · rw [List.getElem?_take_of_lt hj, List.getElem?_drop, q4 j hj, hi, Int.toNat_natCast, rowP_at hiL hj, hx]
      · rw [List.getElem?_eq_none (by rw [List.length_take]; omega), List.getElem?_eq_none (by show 2 ≤ j; omega)]
    obtain ⟨ev, hevd⟩ : ∃ ev : Int, ev = if i < n then 0 else 9 := ⟨_, rfl⟩
    have hev : (ev == 0) = decide (i < n) := by
      rw [hevd]
      by_cases h : i < n
      · rw [if_pos h, decide_eq_true h]; rfl
      · rw [if_neg h, decide_eq_false h]; rfl
    have he9 : (ev == 0) = false → (ev == 9) = true := fun h => by
      rw [hev] at h
      rw [hevd, if_neg (of_decide_eq_false h)]
      rfl
    have fin34199 : ∀ (ρ' : Env) (Gx : List Ob) (M' : DiskM) (f : Tree), ρ'.g 34199 = encG Gx → ρ'.i 1200 = ρ.i 1200 → ρ'.i 13200 = ρ.i 13200 → ρ'.i 7200 = ρ.i 7200 → DStep (G.length + 2) (newM G.length) (newG G) M' Gx → M'.off = decide (n ≤ i) → SS n (i + 1) M' →
        treeSem stpS (stLQ G L.length n) (KL G) ρ' (.call 6 51200 [(.pla (.var 1200) (.lit 0) 0), (.var 34199)] (.split (.iff (.var 51200) (.cmp .geq (.var 13200) (.var 7200))) (.again 7 13200 [(13200, (.int .i64 (.bin .add .i64 (.var 13200) (.lit 1)))), (14199, (.var 52199))]) f)) := fun ρ' Gx M' f y1 y2 y3 y4 y5 y6 y7 => by
      refine sem_step Gx [tokAt (G.length + 2) 0] ((Env.ofL [.bool M'.off]).ans (encG Gx)) rfl (by show [tokAt (ρ'.i 1200).toNat 0, ρ'.g 34199] = _; rw [y2, xd, y1]; rfl) ⟨_, M', rfl, y5.is_, rfl, rfl⟩ ?_
      refine sem_yes (by show (M'.off == decide (ρ'.i 13200 ≥ ρ'.i 7200)) = true; rw [y6, y3, y4, hi, xn, show decide ((i : Int) ≥ (n : Int)) = decide (n ≤ i) from decide_eq_decide.2 (by omega)]; simp) ?_
      refine sem_again (Env.from_ _ 13200 ((Env.ofL [.int .i64 (ρ.i 13200 + 1)]).ans (encG Gx))) (Env.from_ag _ _ _) ?_ ⟨Gx, M', i + 1, rfl, ?_, hiL, y5, y7⟩ ?_
      · show [Value.int .i64 (ρ.i 13200 + 1), encG Gx] = [Value.int .i64 (IntKind.i64.wrap (ρ'.i 13200 + 1)), encG Gx]
        rw [y3, hi, wrap_in (by omega) (by omega)]
      · show ρ.i 13200 + 1 = _
        rw [hi]; simp
      · show ((L.length : Int) - (ρ.i 13200 + 1)).toNat < ((L.length : Int) - ρ'.i 13200).toNat
        rw [y3]
        omega
    have fin45199 : ∀ (ρ' : Env) (Gx : List Ob) (M' : DiskM) (f : Tree), ρ'.g 45199 = encG Gx → ρ'.i 1200 = ρ.i 1200 → ρ'.i 13200 = ρ.i 13200 → ρ'.i 7200 = ρ.i 7200 → DStep (G.length + 2) (newM G.length) (newG G) M' Gx → M'.off = decide (n ≤ i) → SS n (i + 1) M' →
        treeSem stpS (stLQ G L.length n) (KL G) ρ' (.call 6 63200 [(.pla (.var 1200) (.lit 0) 0), (.var 45199)] (.split (.iff (.var 63200) (.cmp .geq (.var 13200) (.var 7200))) (.again 7 13200 [(13200, (.int .i64 (.bin .add .i64 (.var 13200) (.lit 1)))), (14199, (.var 64199))]) f)) := fun ρ' Gx M' f y1 y2 y3 y4 y5 y6 y7 => by
      refine sem_step Gx [tokAt (G.length + 2) 0] ((Env.ofL [.bool M'.off]).ans (encG Gx)) rfl (by show [tokAt (ρ'.i 1200).toNat 0, ρ'.g 45199] = _; rw [y2, xd, y1]; rfl) ⟨_, M', rfl, y5.is_, rfl, rfl⟩ ?_
      refine sem_yes (by show (M'.off == decide (ρ'.i 13200 ≥ ρ'.i 7200)) = true; rw [y6, y3, y4, hi, xn, show decide ((i : Int) ≥ (n : Int)) = decide (n ≤ i) from decide_eq_decide.2 (by omega)]; simp) ?_
      refine sem_again (Env.from_ _ 13200 ((Env.ofL [.int .i64 (ρ.i 13200 + 1)]).ans (encG Gx))) (Env.from_ag _ _ _) ?_ ⟨Gx, M', i + 1, rfl, ?_, hiL, y5, y7⟩ ?_
      · show [Value.int .i64 (ρ.i 13200 + 1), encG Gx] = [Value.int .i64 (IntKind.i64.wrap (ρ'.i 13200 + 1)), encG Gx]
        rw [y3, hi, wrap_in (by omega) (by omega)]
      · show ρ.i 13200 + 1 = _
        rw [hi]; simp
      · show ((L.length : Int) - (ρ.i 13200 + 1)).toNat < ((L.length : Int) - ρ'.i 13200).toNat
        rw [y3]
        omega
    have fin36199 : ∀ (ρ' : Env) (Gx : List Ob) (M' : DiskM) (f : Tree), ρ'.g 36199 = encG Gx → ρ'.i 1200 = ρ.i 1200 → ρ'.i 13200 = ρ.i 13200 → ρ'.i 7200 = ρ.i 7200 → DStep (G.length + 2) (newM G.length) (newG G) M' Gx → M'.off = decide (n ≤ i) → SS n (i + 1) M' →
        treeSem stpS (stLQ G L.length n) (KL G) ρ' (.call 6 63200 [(.pla (.var 1200) (.lit 0) 0), (.var 36199)] (.split (.iff (.var 63200) (.cmp .geq (.var 13200) (.var 7200))) (.again 7 13200 [(13200, (.int .i64 (.bin .add .i64 (.var 13200) (.lit 1)))), (14199, (.var 64199))]) f)) := fun ρ' Gx M' f y1 y2 y3 y4 y5 y6 y7 => by
      refine sem_step Gx [tokAt (G.length + 2) 0] ((Env.ofL [.bool M'.off]).ans (encG Gx)) rfl (by show [tokAt (ρ'.i 1200).toNat 0, ρ'.g 36199] = _; rw [y2, xd, y1]; rfl) ⟨_, M', rfl, y5.is_, rfl, rfl⟩ ?_
      refine sem_yes (by show (M'.off == decide (ρ'.i 13200 ≥ ρ'.i 7200)) = true; rw [y6, y3, y4, hi, xn, show decide ((i : Int) ≥ (n : Int)) = decide (n ≤ i) from decide_eq_decide.2 (by omega)]; simp) ?_
      refine sem_again (Env.from_ _ 13200 ((Env.ofL [.int .i64 (ρ.i 13200 + 1)]).ans (encG Gx))) (Env.from_ag _ _ _) ?_ ⟨Gx, M', i + 1, rfl, ?_, hiL, y5, y7⟩ ?_
      · show [Value.int .i64 (ρ.i 13200 + 1), encG Gx] = [Value.int .i64 (IntKind.i64.wrap (ρ'.i 13200 + 1)), encG Gx]
        rw [y3, hi, wrap_in (by omega) (by omega)]
      · show ρ.i 13200 + 1 = _
        rw [hi]; simp
      · show ((L.length : Int) - (ρ.i 13200 + 1)).toNat < ((L.length : Int) - ρ'.i 13200).toNat
        rw [y3]
        omega
    refine sem_step Gi [v, .int .i64 (ρ.i 13200)] _ rfl (by show [oneOf (ρ.v 1), Value.int .i64 (ρ.i 13200), ρ.g 14199] = _; rw [xv, hg, oneOf_eq o1]; rfl) q1 ?_
    refine sem_step Gi [tokAt m p] (Env.ofL [.int .i64 x.k, x.v]) rfl (by show [tokAt m (p + 0), ρ.g 14199] = _; rw [hg]; rfl) ⟨m, p, all, rfl, q2, q3, by show Value.agg #[.int .i64 x.k, oneOf x.v] = _; rw [oneOf_eq ox, e4]; rfl⟩ ?_
    obtain ⟨Gp, hGp⟩ : ∃ Gp, Gp = plG Gi x.k x.v x.bs.length := ⟨_, rfl⟩
    refine sem_step Gi [.agg #[.int .i64 x.k, x.v]] ((Env.ofL [.int .i64 (pickI x.k 20), plV Gi x.v]).ans (encG Gp)) rfl (by show [Value.agg #[.int .i64 x.k, oneOf x.v], ρ.g 14199] = _; rw [hg, oneOf_eq ox]; rfl) ⟨x.k, x.v, x.bs, rfl, hb, rfl, rfl, by rw [hGp]; rfl⟩ ?_
    have dP : DStep (G.length + 2) (newM G.length) (newG G) M Gp := by
      rw [hGp]
      exact hst.trans (DStep.of_keeps hst.is_ (pl_keeps _ _ _ _).1 (pl_keeps _ _ _ _).2)
    have hat := pick_rng (a := x.k) (b := 20) (by omega) (by omega)
    have htm : (ρ.i 13200).tmod 3 = (i % 3 : Nat) := by
      rw [hi, Int.tmod_eq_emod_of_nonneg (by omega)]
      omega
    by_cases hm : i % 3 = 2
    · obtain ⟨c1, c2, c3⟩ := syc_ss hS (by omega) hm Gp.length
      have hsy := dP.trans (syc_step dP.is_)
      refine sem_yes (by show ((ρ.i 13200).tmod 3 == 2) = true; rw [htm, hm]; rfl) ?_
      refine sem_step Gp [tokAt (G.length + 2) 0] ((Env.ofL [.int .i64 ev]).ans (encG (sycG Gp (G.length + 2) M))) rfl (by show [tokAt (ρ.i 1200).toNat 0, _] = _; rw [xd]; rfl) ⟨_, M, rfl, dP.is_, by rw [c1, ← hevd]; rfl, rfl⟩ ?_
      refine sem_yes (by show ((ev == 0) == decide (ρ.i 13200 < ρ.i 7200)) = true; rw [hev, hi, xn, show decide ((i : Int) < (n : Int)) = decide (i < n) from decide_eq_decide.2 (by omega)]; simp) ?_
      refine sem_split (fun _ => fin34199 _ (sycG Gp (G.length + 2) M) (sycM M Gp.length) _ rfl rfl rfl rfl hsy c2 c3) (fun h => ?_)
      have h : (ev == 0) = false := h
      exact sem_yes (by show (ev == 9) = true; exact he9 h) (fin34199 _ (sycG Gp (G.length + 2) M) (sycM M Gp.length) _ rfl rfl rfl rfl hsy c2 c3)
    · have h128 : (cut128 x.bs).length ≤ 128 := by rw [cut128_len]; omega
      obtain ⟨c1, c2, c3, c4⟩ := wr_ss hS (by omega) hm (a := pickI x.k 20) hat h128
      have hw1 := wr_step dP.is_ (pickI x.k 20) (cut128 x.bs)
      have hwr := dP.trans hw1
      have hdp : IsDisk (plG Gi x.k x.v x.bs.length) (G.length + 2) M := by rw [← hGp]; exact dP.is_
      have hsp : Sx.Sl Gp (plV Gi x.v) 1 (cut128 x.bs).length (u8s (cut128 x.bs)) := by
        have := pl_frd hb hdp FrD.refl
        rwa [← hGp] at this
      have hsw : Sx.Sl (wrG Gp (G.length + 2) M (pickI x.k 20) (cut128 x.bs)) (plV Gi x.v) 1 (cut128 x.bs).length (u8s (cut128 x.bs)) := pl_frd hb hdp (by have := hw1.fr; rw [hGp] at this ⊢; exact this)
      have op := hsp.one
      refine sem_no (by show ((ρ.i 13200).tmod 3 == 2) = false; rw [htm]; exact beq_eq_false_iff_ne.2 (by omega)) ?_
      refine sem_step Gp [tokAt (G.length + 2) 0, .int .i64 (pickI x.k 20), plV Gi x.v] ((Env.ofL [.int .i64 ev]).ans (encG (wrG Gp (G.length + 2) M (pickI x.k 20) (cut128 x.bs)))) rfl (by show [tokAt (ρ.i 1200).toNat 0, Value.int .i64 (pickI x.k 20), oneOf (plV Gi x.v), _] = _; rw [xd, oneOf_eq op]; rfl)
        ⟨_, M, _, _, cut128 x.bs, rfl, dP.is_, hsp, by rw [c1, ← hevd]; rfl, rfl⟩ ?_
      by_cases hle : i ≤ n
      · refine sem_yes (by show decide (ρ.i 13200 ≤ ρ.i 7200) = true; rw [hi, xn]; exact decide_eq_true (by omega)) ?_
        have hrk := rds_keeps hwr.is_ (pickI x.k 20) (cut128 x.bs)
        have hrd := hwr.trans (DStep.of_keeps hwr.is_ hrk.1 hrk.2)
        refine sem_step (wrG Gp (G.length + 2) M (pickI x.k 20) (cut128 x.bs)) [tokAt (G.length + 2) 0, .int .i64 (pickI x.k 20), plV Gi x.v] ((Env.ofL [.bool true]).ans (encG (rdsG (wrG Gp (G.length + 2) M (pickI x.k 20) (cut128 x.bs)) (wrM M (pickI x.k 20) (cut128 x.bs)) (pickI x.k 20) (cut128 x.bs)))) rfl (by show [tokAt (ρ.i 1200).toNat 0, Value.int .i64 (pickI x.k 20), oneOf (plV Gi x.v), _] = _; rw [xd, oneOf_eq op]; rfl)
          ⟨_, _, _, _, cut128 x.bs, rfl, hwr.is_, hsw, by omega, by rw [c4 hle]; rfl, rfl⟩ ?_
        refine sem_yes rfl ?_
        refine sem_yes (by show ((ev == 0) == decide (ρ.i 13200 < ρ.i 7200)) = true; rw [hev, hi, xn, show decide ((i : Int) < (n : Int)) = decide (i < n) from decide_eq_decide.2 (by omega)]; simp) ?_
        refine sem_split (fun _ => fin45199 _ (rdsG (wrG Gp (G.length + 2) M (pickI x.k 20) (cut128 x.bs)) (wrM M (pickI x.k 20) (cut128 x.bs)) (pickI x.k 20) (cut128 x.bs)) (wrM M (pickI x.k 20) (cut128 x.bs)) _ rfl rfl rfl rfl hrd c2 c3) (fun h => ?_)
        have h : (ev == 0) = false := h
        exact sem_yes (by show (ev == 9) = true; exact he9 h) (fin45199 _ (rdsG (wrG Gp (G.length + 2) M (pickI x.k 20) (cut128 x.bs)) (wrM M (pickI x.k 20) (cut128 x.bs)) (pickI x.k 20) (cut128 x.bs)) (wrM M (pickI x.k 20) (cut128 x.bs)) _ rfl rfl rfl rfl hrd c2 c3)
      · refine sem_no (by show decide (ρ.i 13200 ≤ ρ.i 7200) = false; rw [hi, xn]; exact decide_eq_false (by omega)) ?_
        refine sem_yes (by show ((ev == 0) == decide (ρ.i 13200 < ρ.i 7200)) = true; rw [hev, hi, xn, show decide ((i : Int) < (n : Int)) = decide (i < n) from decide_eq_decide.2 (by omega)]; simp) ?_
        refine sem_split (fun _ => fin36199 _ (wrG Gp (G.length + 2) M (pickI x.k 20) (cut128 x.bs)) (wrM M (pickI x.k 20) (cut128 x.bs)) _ rfl rfl rfl rfl hwr c2 c3) (fun h => ?_)
        have h : (ev == 0) = false := h
        exact sem_yes (by show (ev == 9) = true; exact he9 h) (fin36199 _ (wrG Gp (G.length + 2) M (pickI x.k 20) (cut128 x.bs)) (wrM M (pickI x.k 20) (cut128 x.bs)) _ rfl rfl rfl rfl hwr c2 c3)
  · have hc : ¬ ρ.i 13200 < (L.length : Int) := of_decide_eq_false hc
    have hie : i = L.length := by omega
    rw [hie] at hS
    have hcr := hst.trans (cra_step hst.is_ [])
    have hsy := hcr.trans (syc_step hcr.is_)
    have hkS := new_fr hsy.fr
    have worL' : ∀ (ρ : Env) (b g : Nat), ρ.b b = true → ρ.g g = encG (w16 (sycG (crash Gi (G.length + 2) M []).1 (G.length + 2) (crash Gi (G.length + 2) M []).2)) → treeSem stpS (stLQ G L.length n) (KL G) ρ (leafG (.bool (.var b)) .nil g) := fun ρ b g hb hg =>
      sem_retL rfl (by show Value.bool (ρ.b b) = _; rw [hb]) hg fun m o ho => wor_keeps _ _ _ (hkS m o ho)
    refine sem_step Gi [v] (Env.ofL [.int .i64 L.length]) rfl (by show [oneOf (ρ.v 1), ρ.g 14199] = _; rw [xv, hg, oneOf_eq o1]; rfl) ⟨v, 2, _, _, rfl, hsi, rfl⟩ ?_
    refine sem_step Gi [v] (Env.ofL [.int .i64 L.length]) rfl (by show [oneOf (ρ.v 1), ρ.g 14199] = _; rw [xv, hg, oneOf_eq o1]; rfl) ⟨v, 2, _, _, rfl, hsi, rfl⟩ ?_
    have hmin : intMin (L.length : Nat) (n : Nat) = if n < L.length then (n : Int) else L.length := by
      unfold intMin
      by_cases h : n < L.length
      · rw [if_pos (by omega), if_pos h]
      · rw [if_neg (by omega), if_neg h]
    have htm : (ρ.i 7200).tmod 3 = (n % 3 : Nat) := by
      rw [xn, Int.tmod_eq_emod_of_nonneg (by omega)]
      omega
    unfold SS at hS
    by_cases hnl : n < L.length
    · rw [if_neg (by omega)] at hS
      rw [if_pos hnl] at hmin
      refine sem_yes (by show decide (ρ.i 7200 < (L.length : Int)) = true; rw [xn]; exact decide_eq_true (by omega)) ?_
      by_cases hm : n % 3 = 2
      · rw [if_pos hm] at hS
        refine sem_yes (by show ((ρ.i 7200).tmod 3 == 2) = true; rw [htm, hm]; rfl) ?_
        refine sem_step Gi [tokAt (G.length + 2) 0] ((Env.ofL [.int .i64 M.done]).ans (encG Gi)) rfl (by show [tokAt (ρ.i 1200).toNat 0, ρ.g 14199] = _; rw [xd, hg]; rfl) ⟨_, M, rfl, hst.is_, rfl, rfl⟩ ?_
        refine sem_yes (by show (M.done == intMin (L.length : Nat) (ρ.i 7200)) = true; rw [xn, hmin, hS.2.2]; exact beq_self_eq_true _) ?_
        refine sem_step Gi [tokAt (G.length + 2) 0, .slice none 0 0] ((Env.ofL []).ans (encG (crash Gi (G.length + 2) M []).1)) rfl (by show [tokAt (ρ.i 1200).toNat 0, Value.slice none 0 0, _] = _; rw [xd]; rfl) ⟨_, M, _, [], rfl, hst.is_, fun _ _ => .inl ⟨rfl, rfl, rfl⟩, rfl⟩ ?_
        refine sem_step (crash Gi (G.length + 2) M []).1 [tokAt (G.length + 2) 0] ((Env.ofL [.bool false]).ans (encG (crash Gi (G.length + 2) M []).1)) rfl (by show [tokAt (ρ.i 1200).toNat 0, _] = _; rw [xd]; rfl) ⟨_, _, rfl, hcr.is_, rfl, rfl⟩ ?_
        refine sem_no rfl ?_
        refine sem_step (crash Gi (G.length + 2) M []).1 [tokAt (G.length + 2) 0] ((Env.ofL [.int .i64 0]).ans (encG (sycG (crash Gi (G.length + 2) M []).1 (G.length + 2) (crash Gi (G.length + 2) M []).2))) rfl (by show [tokAt (ρ.i 1200).toNat 0, _] = _; rw [xd]; rfl) ⟨_, _, rfl, hcr.is_, rfl, rfl⟩ ?_
        refine sem_yes rfl ?_
        refine sem_step (sycG (crash Gi (G.length + 2) M []).1 (G.length + 2) (crash Gi (G.length + 2) M []).2) [] ((Env.ofL [.bool true]).ans (encG (w16 (sycG (crash Gi (G.length + 2) M []).1 (G.length + 2) (crash Gi (G.length + 2) M []).2)))) rfl rfl ⟨rfl, rfl, rfl⟩ ?_
        exact worL' _ _ _ rfl rfl
      · rw [if_neg hm] at hS
        refine sem_no (by show ((ρ.i 7200).tmod 3 == 2) = false; rw [htm]; exact beq_eq_false_iff_ne.2 (by omega)) ?_
        refine sem_step Gi [tokAt (G.length + 2) 0] ((Env.ofL [.int .i64 M.done]).ans (encG Gi)) rfl (by show [tokAt (ρ.i 1200).toNat 0, ρ.g 14199] = _; rw [xd, hg]; rfl) ⟨_, M, rfl, hst.is_, rfl, rfl⟩ ?_
        refine sem_yes (by show (M.done == IntKind.i64.wrap (intMin (L.length : Nat) (ρ.i 7200) + 1)) = true; rw [xn, hmin, wrap_in (by omega) (by omega), hS.2.2]; exact beq_self_eq_true _) ?_
        refine sem_step Gi [tokAt (G.length + 2) 0, .slice none 0 0] ((Env.ofL []).ans (encG (crash Gi (G.length + 2) M []).1)) rfl (by show [tokAt (ρ.i 1200).toNat 0, Value.slice none 0 0, _] = _; rw [xd]; rfl) ⟨_, M, _, [], rfl, hst.is_, fun _ _ => .inl ⟨rfl, rfl, rfl⟩, rfl⟩ ?_
        refine sem_step (crash Gi (G.length + 2) M []).1 [tokAt (G.length + 2) 0] ((Env.ofL [.bool false]).ans (encG (crash Gi (G.length + 2) M []).1)) rfl (by show [tokAt (ρ.i 1200).toNat 0, _] = _; rw [xd]; rfl) ⟨_, _, rfl, hcr.is_, rfl, rfl⟩ ?_
        refine sem_no rfl ?_
        refine sem_step (crash Gi (G.length + 2) M []).1 [tokAt (G.length + 2) 0] ((Env.ofL [.int .i64 0]).ans (encG (sycG (crash Gi (G.length + 2) M []).1 (G.length + 2) (crash Gi (G.length + 2) M []).2))) rfl (by show [tokAt (ρ.i 1200).toNat 0, _] = _; rw [xd]; rfl) ⟨_, _, rfl, hcr.is_, rfl, rfl⟩ ?_
        refine sem_yes rfl ?_
        refine sem_step (sycG (crash Gi (G.length + 2) M []).1 (G.length + 2) (crash Gi (G.length + 2) M []).2) [] ((Env.ofL [.bool true]).ans (encG (w16 (sycG (crash Gi (G.length + 2) M []).1 (G.length + 2) (crash Gi (G.length + 2) M []).2)))) rfl rfl ⟨rfl, rfl, rfl⟩ ?_
        exact worL' _ _ _ rfl rfl
    · rw [if_pos (by omega)] at hS
      rw [if_neg hnl] at hmin
      refine sem_no (by show decide (ρ.i 7200 < (L.length : Int)) = false; rw [xn]; exact decide_eq_false (by omega)) ?_
      refine sem_step Gi [tokAt (G.length + 2) 0] ((Env.ofL [.int .i64 M.done]).ans (encG Gi)) rfl (by show [tokAt (ρ.i 1200).toNat 0, ρ.g 14199] = _; rw [xd, hg]; rfl) ⟨_, M, rfl, hst.is_, rfl, rfl⟩ ?_
      refine sem_yes (by show (M.done == intMin (L.length : Nat) (ρ.i 7200)) = true; rw [xn, hmin, hS.2.2]; exact beq_self_eq_true _) ?_
      refine sem_step Gi [tokAt (G.length + 2) 0, .slice none 0 0] ((Env.ofL []).ans (encG (crash Gi (G.length + 2) M []).1)) rfl (by show [tokAt (ρ.i 1200).toNat 0, Value.slice none 0 0, _] = _; rw [xd]; rfl) ⟨_, M, _, [], rfl, hst.is_, fun _ _ => .inl ⟨rfl, rfl, rfl⟩, rfl⟩ ?_
      refine sem_step (crash Gi (G.length + 2) M []).1 [tokAt (G.length + 2) 0] ((Env.ofL [.bool false]).ans (encG (crash Gi (G.length + 2) M []).1)) rfl (by show [tokAt (ρ.i 1200).toNat 0, _] = _; rw [xd]; rfl) ⟨_, _, rfl, hcr.is_, rfl, rfl⟩ ?_
      refine sem_no rfl ?_
      refine sem_step (crash Gi (G.length + 2) M []).1 [tokAt (G.length + 2) 0] ((Env.ofL [.int .i64 0]).ans (encG (sycG (crash Gi (G.length + 2) M []).1 (G.length + 2) (crash Gi (G.length + 2) M []).2))) rfl (by show [tokAt (ρ.i 1200).toNat 0, _] = _; rw [xd]; rfl) ⟨_, _, rfl, hcr.is_, rfl, rfl⟩ ?_
      refine sem_yes rfl ?_
      refine sem_step (sycG (crash Gi (G.length + 2) M []).1 (G.length + 2) (crash Gi (G.length + 2) M []).2) [] ((Env.ofL [.bool true]).ans (encG (w16 (sycG (crash Gi (G.length + 2) M []).1 (G.length + 2) (crash Gi (G.length + 2) M []).2)))) rfl rfl ⟨rfl, rfl, rfl⟩ ?_
      exact worL' _ _ _ rfl rfl
end Go.Proofs.Ytcedgoaanlbldaa
