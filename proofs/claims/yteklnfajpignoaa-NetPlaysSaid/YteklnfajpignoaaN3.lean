/- What is proved: the walk of NetTrue; printed by mk_N3.py. No condition. -/
import Derived.Test.YteklnfajpignoaaN2
namespace Go.Proofs.Yteklnfajpignoaa
open Sx hiding Sl
set_option maxRecDepth 100000

theorem wrap_of {y : Int} (h0 : 0 ≤ y) (h1 : y ≤ 1000000000) : IntKind.i64.wrap y = y := by rw [IntWalk.i64_left, IntWalk.wrap64_in _ (by omega)]
theorem sums {N : NetM} {I O X : List LD} {j : Nat} (h : Sum N.data I O X j) (hj : j ≤ 1000000) :
    IntKind.i64.wrap (N.sent + N.doubled) = (I.length : Nat) ∧ N.delivered = (O.length : Nat) ∧ IntKind.i64.wrap (IntKind.i64.wrap (N.delivered + N.lost) + ((N.row.length : Nat) : Int)) = (I.length : Nat) := by
  have h1 : N.sent + N.doubled = (I.length : Nat) := h.sd
  have h2 : N.delivered = (O.length : Nat) := h.v
  have h3 : N.lost = (X.length : Nat) := h.l
  have h4 := h.len
  rw [← len_data] at h4
  have h5 := h.le
  refine ⟨?_, h2, ?_⟩
  · rw [h1, wrap_of (by omega) (by omega)]
  · rw [h2, h3, wrap_of (y := (O.length : Int) + (X.length : Int)) (by omega) (by omega), wrap_of (by omega) (by omega)]
    omega
def tc : List Con := [newC, greatC, worksC, lenC 22, idxC 22, loadC 32 (.agg (actE 0)), didC, appC 51, bsC 51 1, alikeC, countsC, lenC 51, waitsC, lookC, eqC 23, neC 23]
def tcS : List ConS := [conR newR, conR greatR, conR worksR, conR lenR, conR (idxR 4), conR (loadRowR 4 (.agg (actE 0))), conR didR, conR (appR 3 40), conR (bsR 3 1), conR alikeR, conR countsR, conR lenR, conR waitsR, conR lookR, conR (CmpR NilPtr false), conR (CmpR NilPtr true)]
theorem tc_holds : Cons Try.prog tc tcS :=
  ⟨new_holds, great_holds, works_holds, len_holds Try.underlying22, idx_holds Try.underlying22 (by kernel_rfl), loadRow_holds (by kernel_rfl) (by kernel_rfl) rfl, did_holds,
    app_ok (z := .agg #[.int .i64 0, .int .i64 0, .slice none 0 0]) Try.underlying51 (by kernel_rfl) rfl, bs_ok (b := 40) (z := .agg #[.int .i64 0, .int .i64 0, .slice none 0 0]) Try.underlying51 (by kernel_rfl) rfl,
    alike_holds, counts_holds, len_holds Try.underlying51, waits_holds, look_holds, (ptr_holds Try.underlying23).1, (ptr_holds Try.underlying23).2, trivial⟩
def tLT : List (Nat × LS) := [(6, ⟨[(8, fun b => .int .i64 (.var b)), (6, fun b => .hnd (b + 1)), (7, fun b => .hnd (b + 2))], [], [], true⟩), (19, ⟨[(17, fun b => .int .i64 (.var b))], [], [], true⟩)]
def inv6 (G0 : List Ob) (n : Nat) (L : List AD) (nv : Nat) (ρ : Env) : Prop := ∃ G N ri ro X, ∃ k : Nat, ρ.g (nv + 999) = encG G ∧ ρ.i nv = k ∧ k ≤ L.length ∧ Two G n N (ρ.v (nv + 1)) ri (ρ.v (nv + 2)) ro ∧ Sum N.data (ri.map Lt.data) (ro.map Lt.data) X k ∧ KeepsRo G0 G
def inv19 (G0 : List Ob) (n : Nat) (nv : Nat) (ρ : Env) : Prop := ∃ G N ri ro X, ∃ k j : Nat, ρ.g (nv + 999) = encG G ∧ ρ.i nv = j ∧ j ≤ N.row.length ∧ Two G n N (ρ.v 13201) ri (ρ.v 13202) ro ∧ Sum N.data (ri.map Lt.data) (ro.map Lt.data) X k ∧ k ≤ 200 ∧ KeepsRo G0 G
def tLQ (G0 : List Ob) (n : Nat) (L : List AD) : LoopS := ⟨fun j nv ρ => match j with | 6 => inv6 G0 n L nv ρ | _ => inv19 G0 n nv ρ, fun j nv ρ => match j with | 6 => (L.length - ρ.i nv).toNat | _ => (1000 - ρ.i nv).toNat⟩
theorem Acts.keep {G G' : List Ob} {v : Value} {L : List AD} (h : Acts G v L) (hk : KeepsRo G G') : Acts G' v L :=
  ⟨h.row.imp id fun ⟨d, e, hd⟩ => ⟨d, e, hk _ _ _ _ hd⟩, fun x hx => ⟨(h.body x hx).1.keep fun n s m c hn => hk n s m c hn, (h.body x hx).2⟩, h.len⟩
theorem new_ro (G : List Ob) (m : Int) : KeepsRo G (newG G m) := fun k s le c hk => by
  have := (List.getElem?_eq_some_iff.1 hk).1
  unfold newG
  split
  · exact hk
  · rw [List.append_assoc, List.getElem?_append_left this]; exact hk
def treeTrue : Tree :=
 (.call 0 2200 [(.int .i64 (.var 0)), (.var 199)]
 (.call 14 5200 [(.hnd 2200), (.lit (.pointer none)), (.var 3199)]
 (.split (.var 5200)
 (.call 15 11200 [(.hnd 2200), (.lit (.pointer none)), (.var 3199)]
 (.split (.var 11200)
 (.call 2 21200 [(.var 3199)]
 (leafG (.bool (.var 21200)) .nil 22199))
 (.split (.cmp .lss (.var 0) (.lit 1))
 (.call 2 21200 [(.var 3199)]
 (leafG (.bool (.var 21200)) .nil 22199))
 (.split (.cmp .gtr (.var 0) (.lit 32))
 (.call 2 21200 [(.var 3199)]
 (leafG (.bool (.var 21200)) .nil 22199))
 (leafG (.bool (.lit false)) .nil 3199)))))
 (.call 1 8200 [(.hnd 1), (.var 3199)]
 (.split (.var 8200)
 (.call 15 11200 [(.hnd 2200), (.lit (.pointer none)), (.var 9199)]
 (.split (.var 11200)
 (.call 2 21200 [(.var 9199)]
 (leafG (.bool (.var 21200)) .nil 22199))
 (.split (.cmp .lss (.var 0) (.lit 1))
 (.call 2 21200 [(.var 9199)]
 (leafG (.bool (.var 21200)) .nil 22199))
 (.split (.cmp .gtr (.var 0) (.lit 32))
 (.call 2 21200 [(.var 9199)]
 (leafG (.bool (.var 21200)) .nil 22199))
 (leafG (.bool (.lit false)) .nil 9199)))))
 (.loop 6 13200 [(13202, (.lit (.slice none 0 0))), (13200, (.int .i64 (.lit 0))), (13201, (.lit (.slice none 0 0))), (14199, (.var 9199))]
 (.call 3 16200 [(.hnd 1), (.var 14199)]
 (.split (.cmp .lss (.var 13200) (.var 16200))
 (.call 4 21200 [(.hnd 1), (.int .i64 (.var 13200)), (.var 14199)]
 (.call 5 22200 [(.pla (.var 21200) (.var 21201) 0), (.var 14199)]
 (.call 6 23200 [(.hnd 2200), (.agg ([(.int .i64 (.var 22200)), (.int .i64 (.var 22201)), (.int .i64 (.var 22202)), (.hnd 22203)])), (.var 14199)]
 (.split (.var 23203)
 (.call 8 38200 [(.agg ([(.int .i64 (.var 23200)), (.int .i64 (.var 23201)), (.hnd 23202)])), (.var 24199)]
 (.call 7 39200 [(.hnd 13201), (.hnd 38200), (.var 39199)]
 (.split (.var 23207)
 (.call 8 44200 [(.agg ([(.int .i64 (.var 23204)), (.int .i64 (.var 23205)), (.hnd 23206)])), (.var 40199)]
 (.call 7 45200 [(.hnd 13202), (.hnd 44200), (.var 45199)]
 (.call 9 49200 [(.hnd 45200), (.agg ([(.int .i64 (.var 23204)), (.int .i64 (.var 23205)), (.hnd 23206)])), (.var 46199)]
 (.call 9 52200 [(.hnd 39200), (.agg ([(.int .i64 (.var 23204)), (.int .i64 (.var 23205)), (.hnd 23206)])), (.var 50199)]
 (.split (.cmp .gtr (.var 49200) (.var 52200))
 (leafG (.bool (.lit false)) .nil 53199)
 (.call 10 55200 [(.hnd 2200), (.var 53199)]
 (.call 11 69200 [(.hnd 39200), (.var 56199)]
 (.split (.cmp .eql (.bin .add .i64 (.var 55200) (.var 55201)) (.var 69200))
 (.call 11 74200 [(.hnd 45200), (.var 56199)]
 (.split (.cmp .eql (.var 55202) (.var 74200))
 (.call 12 85200 [(.hnd 2200), (.var 56199)]
 (.split (.cmp .eql (.bin .add .i64 (.var 55200) (.var 55201)) (.bin .add .i64 (.bin .add .i64 (.var 55202) (.var 55203)) (.var 85200)))
 (.again 6 13200 [(13202, (.hnd 45200)), (13200, (.int .i64 (.bin .add .i64 (.var 13200) (.lit 1)))), (13201, (.hnd 39200)), (14199, (.var 86199))])
 (leafG (.bool (.lit false)) .nil 86199)))
 (leafG (.bool (.lit false)) .nil 56199)))
 (leafG (.bool (.lit false)) .nil 56199)))))))))
 (.call 10 43200 [(.hnd 2200), (.var 40199)]
 (.call 11 57200 [(.hnd 39200), (.var 44199)]
 (.split (.cmp .eql (.bin .add .i64 (.var 43200) (.var 43201)) (.var 57200))
 (.call 11 62200 [(.hnd 13202), (.var 44199)]
 (.split (.cmp .eql (.var 43202) (.var 62200))
 (.call 12 73200 [(.hnd 2200), (.var 44199)]
 (.split (.cmp .eql (.bin .add .i64 (.var 43200) (.var 43201)) (.bin .add .i64 (.bin .add .i64 (.var 43202) (.var 43203)) (.var 73200)))
 (.again 6 13200 [(13202, (.hnd 13202)), (13200, (.int .i64 (.bin .add .i64 (.var 13200) (.lit 1)))), (13201, (.hnd 39200)), (14199, (.var 74199))])
 (leafG (.bool (.lit false)) .nil 74199)))
 (leafG (.bool (.lit false)) .nil 44199)))
 (leafG (.bool (.lit false)) .nil 44199)))))))
 (.split (.var 23207)
 (.call 8 39200 [(.agg ([(.int .i64 (.var 23204)), (.int .i64 (.var 23205)), (.hnd 23206)])), (.var 24199)]
 (.call 7 40200 [(.hnd 13202), (.hnd 39200), (.var 40199)]
 (.call 9 44200 [(.hnd 40200), (.agg ([(.int .i64 (.var 23204)), (.int .i64 (.var 23205)), (.hnd 23206)])), (.var 41199)]
 (.call 9 47200 [(.hnd 13201), (.agg ([(.int .i64 (.var 23204)), (.int .i64 (.var 23205)), (.hnd 23206)])), (.var 45199)]
 (.split (.cmp .gtr (.var 44200) (.var 47200))
 (leafG (.bool (.lit false)) .nil 48199)
 (.call 10 50200 [(.hnd 2200), (.var 48199)]
 (.call 11 64200 [(.hnd 13201), (.var 51199)]
 (.split (.cmp .eql (.bin .add .i64 (.var 50200) (.var 50201)) (.var 64200))
 (.call 11 69200 [(.hnd 40200), (.var 51199)]
 (.split (.cmp .eql (.var 50202) (.var 69200))
 (.call 12 80200 [(.hnd 2200), (.var 51199)]
 (.split (.cmp .eql (.bin .add .i64 (.var 50200) (.var 50201)) (.bin .add .i64 (.bin .add .i64 (.var 50202) (.var 50203)) (.var 80200)))
 (.again 6 13200 [(13202, (.hnd 40200)), (13200, (.int .i64 (.bin .add .i64 (.var 13200) (.lit 1)))), (13201, (.hnd 13201)), (14199, (.var 81199))])
 (leafG (.bool (.lit false)) .nil 81199)))
 (leafG (.bool (.lit false)) .nil 51199)))
 (leafG (.bool (.lit false)) .nil 51199)))))))))
 (.call 10 38200 [(.hnd 2200), (.var 24199)]
 (.call 11 52200 [(.hnd 13201), (.var 39199)]
 (.split (.cmp .eql (.bin .add .i64 (.var 38200) (.var 38201)) (.var 52200))
 (.call 11 57200 [(.hnd 13202), (.var 39199)]
 (.split (.cmp .eql (.var 38202) (.var 57200))
 (.call 12 68200 [(.hnd 2200), (.var 39199)]
 (.split (.cmp .eql (.bin .add .i64 (.var 38200) (.var 38201)) (.bin .add .i64 (.bin .add .i64 (.var 38202) (.var 38203)) (.var 68200)))
 (.again 6 13200 [(13202, (.hnd 13202)), (13200, (.int .i64 (.bin .add .i64 (.var 13200) (.lit 1)))), (13201, (.hnd 13201)), (14199, (.var 69199))])
 (leafG (.bool (.lit false)) .nil 69199)))
 (leafG (.bool (.lit false)) .nil 39199)))
 (leafG (.bool (.lit false)) .nil 39199)))))))))
 (.loop 19 19200 [(19200, (.int .i64 (.lit 0))), (20199, (.var 14199))]
 (.call 12 22200 [(.hnd 2200), (.var 20199)]
 (.split (.cmp .lss (.var 19200) (.var 22200))
 (.call 13 26200 [(.hnd 2200), (.int .i64 (.var 19200)), (.var 23199)]
 (.split (.var 26203)
 (.call 9 38200 [(.hnd 13201), (.agg ([(.int .i64 (.var 26200)), (.int .i64 (.var 26201)), (.hnd 26202)])), (.var 27199)]
 (.split (.cmp .eql (.var 38200) (.lit 0))
 (leafG (.bool (.lit false)) .nil 39199)
 (.again 19 19200 [(19200, (.int .i64 (.bin .add .i64 (.var 19200) (.lit 1)))), (20199, (.var 39199))])))
 (leafG (.bool (.lit false)) .nil 27199)))
 (.call 2 24200 [(.var 23199)]
 (leafG (.bool (.var 24200)) .nil 25199)))))))))))))
theorem true_sem {G0 : List Ob} {v : Value} {L : List AD} (a : Int) (hA : Acts G0 v L) (hro0 : ∀ (n : Nat) o, G0[n]? = some o → ∃ s len cells, o = .ro s len cells) :
    treeSem tcS (tLQ G0 (G0.length + 1) L) (KL G0) ((Env.ofL [.int .i64 a, v]).st (encG G0)) treeTrue := by
  have ov := hA.sl.one
  have fin : ∀ {G' : List Ob}, KeepsRo G0 G' → ∀ (n : Nat) o, G0[n]? = some o → G'[n]? = some o := fun h n o ho => by
    obtain ⟨s, le, c, rfl⟩ := hro0 n o ho
    exact h _ _ _ _ ho
  refine sem_step G0 [.int .i64 a] ((Env.ofL [newV G0 a]).ans (encG (newG G0 a))) rfl rfl ⟨a, rfl, rfl, rfl⟩ ?_
  have hnr := new_ro G0 a
  have hnn : newV G0 a = .pointer none ∧ (a < 1 ∨ 32 < a) ∨ newV G0 a = tokAt (G0.length + 1) 0 ∧ ¬ (a < 1 ∨ 32 < a) := by
    unfold newV
    split
    · exact .inl ⟨rfl, by assumption⟩
    · exact .inr ⟨rfl, by assumption⟩
  have on : (newV G0 a).oneCell' = true := by rcases hnn with ⟨h, _⟩ | ⟨h, _⟩ <;> rw [h] <;> rfl
  have wk : ∀ {G' : List Ob}, KeepsRo G0 G' → KeepsRo G0 (worksG G') := fun h => h.trans (works_ro _)
  rcases hnn with ⟨hnv, hbad⟩ | ⟨hnv, hgood⟩
  · rw [hnv]
    refine sem_step (newG G0 a) [.pointer none, .pointer none] (Env.ofL [.bool true]) rfl rfl ⟨_, _, true, rfl, ⟨rfl, rfl, .inl rfl⟩, rfl⟩ ?_
    refine sem_split (fun _ => ?_) (fun h => by cases h)
    refine sem_step (newG G0 a) [.pointer none, .pointer none] (Env.ofL [.bool false]) rfl rfl ⟨_, _, true, rfl, ⟨rfl, rfl, .inl rfl⟩, rfl⟩ ?_
    refine sem_split (fun h => by cases h) (fun _ => ?_)
    refine sem_split (fun _ => ?_) (fun h1 => ?_)
    · refine sem_step (newG G0 a) [] ((Env.ofL [.bool true]).ans (encG (worksG (newG G0 a)))) rfl rfl ⟨rfl, rfl, rfl⟩ ?_
      exact sem_retL rfl rfl rfl (fin (wk hnr))
    · have h1 : ¬ a < 1 := of_decide_eq_false h1
      refine sem_split (fun _ => ?_) (fun h2 => ?_)
      · refine sem_step (newG G0 a) [] ((Env.ofL [.bool true]).ans (encG (worksG (newG G0 a)))) rfl rfl ⟨rfl, rfl, rfl⟩ ?_
        exact sem_retL rfl rfl rfl (fin (wk hnr))
      · have h2 : ¬ a > 32 := of_decide_eq_false h2
        omega
  rw [hnv]
  obtain ⟨n, hn⟩ : ∃ n, n = G0.length + 1 := ⟨_, rfl⟩
  have is0 : IsNet (newG G0 a) n (newNet a G0.length) := by rw [hn]; exact new_is G0 hgood
  rw [← hn]
  obtain ⟨G1, hG1⟩ : ∃ g, g = newG G0 a := ⟨_, rfl⟩
  rw [← hG1] at is0 hnr ⊢
  have hl1 : n < G1.length := (List.getElem?_eq_some_iff.1 is0.ob).1
  refine sem_step G1 [tokAt n 0, .pointer none] (Env.ofL [.bool false]) rfl rfl ⟨_, _, false, rfl, ⟨rfl, rfl, .inr ⟨_, _, rfl, hl1⟩⟩, rfl⟩ ?_
  refine sem_split (fun h => by cases h) (fun _ => ?_)
  have hA1 := hA.keep hnr
  refine sem_step G1 [v] ((Env.ofL [.bool (greatB L)]).ans (encG G1)) rfl (by show [oneOf v, _] = _; rw [oneOf_eq ov]; rfl) ⟨v, L, rfl, hA1, rfl, rfl⟩ ?_
  refine sem_split (fun _ => ?_) (fun h => ?_)
  · refine sem_step G1 [tokAt n 0, .pointer none] (Env.ofL [.bool true]) rfl rfl ⟨_, _, false, rfl, ⟨rfl, rfl, .inr ⟨_, _, rfl, hl1⟩⟩, rfl⟩ ?_
    refine sem_split (fun _ => ?_) (fun h => by cases h)
    refine sem_step G1 [] ((Env.ofL [.bool true]).ans (encG (worksG G1))) rfl rfl ⟨rfl, rfl, rfl⟩ ?_
    exact sem_retL rfl rfl rfl (fin (wk hnr))
  have hgr : greatB L = false := h
  have hsm : L.length ≤ 200 ∧ ∀ x ∈ L, x.bs.length ≤ 500 := by
    unfold greatB at hgr
    rw [Bool.or_eq_false_iff, decide_eq_false_iff_not, List.any_eq_false] at hgr
    exact ⟨by omega, fun x hx => by have := hgr.2 x hx; simpa using this⟩
  refine sem_loop (Env.from_ _ 13200 ((Env.ofL [.int .i64 0, .slice none 0 0, .slice none 0 0]).ans (encG G1))) (Env.from_ag _ _ _) rfl
    ⟨G1, newNet a G0.length, [], [], [], 0, rfl, rfl, Nat.zero_le _, ⟨is0, .inl ⟨rfl, rfl, rfl⟩, .inl ⟨rfl, rfl, rfl⟩, fun l hl => (by cases hl), fun l hl => (by cases hl), fun d e => (by cases e), fun d e => (by cases e), fun d e => (by cases e)⟩, Sum.new a, hnr⟩ (by kernel_rfl) (fun ρ1 ρ2 h => ?_) (fun ρ hag hinv => ?_)
  · show ((L.length : Int) - ρ2.i 13200).toNat = ((L.length : Int) - ρ1.i 13200).toNat
    rw [(h 13200 (by decide)).1]
  obtain ⟨G, N, ri, ro, X, k, hg, hi, hk, hT, hS, hK⟩ := hinv
  have hg : ρ.g 14199 = encG G := hg
  have hi : ρ.i 13200 = k := hi
  have hT : Two G n N (ρ.v 13201) ri (ρ.v 13202) ro := hT
  have x0 : ρ.v 1 = v := (hag 1 (by decide)).2.2
  have xn : ρ.v 2200 = tokAt n 0 := (hag 2200 (by decide)).2.2
  have hA2 := hA.keep hK
  have oi := hT.di.one
  have oo := hT.do_.one
  have hSl := hS.len
  have hSe := hS.le
  simp only [List.length_map] at hSl hSe
  have hri : ri.length ≤ 1000000 := by omega
  have hro : ro.length ≤ 1000000 := by omega
  have nx : ∀ (ρ' : Env) (g : Nat), ρ'.v 2200 = ρ.v 2200 → E.nams ρ' lay0 [.hnd 2200, .var g] = [tokAt n 0] ++ [ρ'.g g] := fun ρ' g e => by
    show [oneOf (ρ'.v 2200), ρ'.g g] = _
    rw [e, xn]
    rfl
  refine sem_step G [v] (Env.ofL [.int .i64 L.length]) rfl (by show [oneOf (ρ.v 1), ρ.g 14199] = _; rw [x0, hg, oneOf_eq ov]; rfl) ⟨v, 4, _, _, rfl, hA2.sl, rfl⟩ ?_
  refine sem_split (fun h => ?_) (fun h => ?_)
  · have h : ρ.i 13200 < (L.length : Int) := of_decide_eq_true h
    have ka : k < L.length := by omega
    obtain ⟨m, p, all, q1, q2, q3, q4⟩ := sl_at hA2.sl (by decide) (i := ρ.i 13200) (by omega) h
    obtain ⟨x, hx⟩ : ∃ x, x = L[k] := ⟨_, rfl⟩
    have hxm : x ∈ L := by rw [hx]; exact List.getElem_mem _
    have hb := (hA2.body x hxm).1
    have hbl := hsm.2 x hxm
    have hw := wrap_up' (i := ρ.i 13200) (by omega) (by omega)
    refine sem_step G [v, .int .i64 (ρ.i 13200)] _ rfl (by show [oneOf (ρ.v 1), Value.int .i64 (ρ.i 13200), ρ.g 14199] = _; rw [x0, hg, oneOf_eq ov]; rfl) q1 ?_
    refine sem_step G [tokAt m p] (Env.ofL (AD.cells x)) rfl (by show [tokAt m (p + 0), ρ.g 14199] = _; rw [hg]; rfl) ⟨m, p, all, rfl, q2, q3, ?_⟩ ?_
    · show Value.agg #[.int .i64 x.k, .int .i64 x.a, .int .i64 x.b, oneOf x.v] = _
      rw [oneOf_eq hb.one]
      have e4 : (all.drop p).take 4 = AD.cells x := by
        apply List.ext_getElem?
        intro j
        by_cases hj : j < 4
        · rw [List.getElem?_take_of_lt hj, List.getElem?_drop, q4 j hj, hi, Int.toNat_natCast, rowA_at ka hj, hx]
        · rw [List.getElem?_eq_none (by rw [List.length_take]; omega), List.getElem?_eq_none (by show 4 ≤ j; omega)]
      rw [e4]
      rfl
    obtain ⟨D, hD⟩ : ∃ D, D = didO G n N x := ⟨_, rfl⟩
    have hs : Step n N G D.N D.G := by rw [hD]; exact did_step hT.is_ hb
    have hT1 := hT.step hs
    have hK1 := hK.trans (hs.keepsRo hT.is_)
    have hLi : LOk D.G D.i := by rw [hD]; exact did_i hT.is_ (by omega)
    have hLo : LOk D.G D.o := by rw [hD]; exact did_o hT.is_ (by omega)
    have oi1 := hLi.1.one
    have oo1 := hLo.1.one
    obtain ⟨X', hS'⟩ := sum_did (G := G) (n := n) (x := x) hS (by omega)
    rw [← hD] at hS'
    refine sem_step G [tokAt n 0, .agg (AD.cells x).toArray] ((Env.ofL (D.i.cells ++ [.bool D.ib] ++ D.o.cells ++ [.bool D.ob])).ans (encG D.G)) rfl (by show [oneOf (ρ.v 2200), Value.agg #[_, _, _, oneOf x.v], ρ.g 14199] = _; rw [xn, hg, oneOf_eq hb.one]; rfl)
      ⟨n, N, x, rfl, hT.is_, hb, by omega, by rw [← hD]; rfl, by rw [← hD]; rfl, by rw [← hD]; rfl, by rw [← hD]; rfl, by rw [← hD]; rfl, by rw [← hD]; rfl, by rw [← hD]; rfl, by rw [← hD]; rfl, by rw [← hD]; rfl⟩ ?_
    cases hib : D.ib with
    | true =>
      refine sem_split (fun _ => ?_) (fun h => by cases h)
      refine sem_step D.G [.agg D.i.cells.toArray] _ rfl (by show [Value.agg #[_, _, oneOf D.i.v], _] = _; rw [oneOf_eq oi1]; rfl) (lit_bs3 oi1) ?_
      refine sem_step (litL D.G D.i) [(ρ.v 13201), tok D.G.length] _ rfl (by show [oneOf (ρ.v 13201), _, _] = _; rw [oneOf_eq oi]; rfl) (lit_app3 hT1.di hri) ?_
      have hT2 := hT1.push hLi
      have hLo2 : LOk (pushG D.G (ρ.v 13201) ri D.i) D.o := push_one hT1.di hLo
      have hK2 : KeepsRo G0 (pushG D.G (ρ.v 13201) ri D.i) := hK1.trans (push_ro hT1.di)
      cases hob : D.ob with
      | true =>
        refine sem_split (fun _ => ?_) (fun h => by cases h)
        refine sem_step (pushG D.G (ρ.v 13201) ri D.i) [.agg D.o.cells.toArray] _ rfl (by show [Value.agg #[_, _, oneOf D.o.v], _] = _; rw [oneOf_eq oo1]; rfl) (lit_bs3 oo1) ?_
        refine sem_step (litL (pushG D.G (ρ.v 13201) ri D.i) D.o) [(ρ.v 13202), tok (pushG D.G (ρ.v 13201) ri D.i).length] _ rfl (by show [oneOf (ρ.v 13202), _, _] = _; rw [oneOf_eq oo]; rfl) (lit_app3 hT2.do_ hro) ?_
        have hT3 := ((hT2.swap).push hLo2).swap
        have hLo3 : LOk (pushG (pushG D.G (ρ.v 13201) ri D.i) (ρ.v 13202) ro D.o) D.o := push_one hT2.do_ hLo2
        have hK3 : KeepsRo G0 (pushG (pushG D.G (ρ.v 13201) ri D.i) (ρ.v 13202) ro D.o) := hK2.trans (push_ro hT2.do_)
        have hS3 : Sum D.N.data ((ri ++ [D.i]).map Lt.data) ((ro ++ [D.o]).map Lt.data) X' (k + 1) := by rw [hib, hob] at hS'; simpa using hS'
        refine sem_step (pushG (pushG D.G (ρ.v 13201) ri D.i) (ρ.v 13202) ro D.o) [(tok ((pushG D.G (ρ.v 13201) ri D.i).length + 1)), .agg D.o.cells.toArray] ((Env.ofL [.int .i64 (cntL ((ro ++ [D.o]).map Lt.data) D.o.data : Nat)]).ans (encG (pushG (pushG D.G (ρ.v 13201) ri D.i) (ρ.v 13202) ro D.o))) rfl (by show [(tok ((pushG D.G (ρ.v 13201) ri D.i).length + 1)), Value.agg #[_, _, oneOf D.o.v], _] = _; rw [oneOf_eq oo1]; rfl) ⟨(tok ((pushG D.G (ρ.v 13201) ri D.i).length + 1)), (ro ++ [D.o]), D.o, rfl, hT3.swap.rows, hT3.swap.ls, ls_one hLo3, by simp; omega, rfl, rfl⟩ ?_
        refine sem_step (pushG (pushG D.G (ρ.v 13201) ri D.i) (ρ.v 13202) ro D.o) [(tok (D.G.length + 1)), .agg D.o.cells.toArray] ((Env.ofL [.int .i64 (cntL ((ri ++ [D.i]).map Lt.data) D.o.data : Nat)]).ans (encG (pushG (pushG D.G (ρ.v 13201) ri D.i) (ρ.v 13202) ro D.o))) rfl (by show [(tok (D.G.length + 1)), Value.agg #[_, _, oneOf D.o.v], _] = _; rw [oneOf_eq oo1]; rfl) ⟨(tok (D.G.length + 1)), (ri ++ [D.i]), D.o, rfl, hT3.rows, hT3.ls, ls_one hLo3, by simp; omega, rfl, rfl⟩ ?_
        refine sem_split (fun h => absurd (of_decide_eq_true h : ((cntL ((ro ++ [D.o]).map Lt.data) D.o.data : Nat) : Int) > ((cntL ((ri ++ [D.i]).map Lt.data) D.o.data : Nat) : Int)) (by have := hS3.out_le D.o.data; omega)) (fun _ => ?_)
        obtain ⟨e1, e2, e3⟩ := sums hS3 (by omega)
        rw [List.length_map] at e1 e2 e3
        refine sem_step (pushG (pushG D.G (ρ.v 13201) ri D.i) (ρ.v 13202) ro D.o) [tokAt n 0] ((Env.ofL [.int .i64 D.N.sent, .int .i64 D.N.doubled, .int .i64 D.N.delivered, .int .i64 D.N.lost]).ans (encG (pushG (pushG D.G (ρ.v 13201) ri D.i) (ρ.v 13202) ro D.o))) rfl (nx _ _ rfl) ⟨n, D.N, rfl, hT3.is_, rfl, rfl, rfl, rfl, rfl⟩ ?_
        refine sem_step (pushG (pushG D.G (ρ.v 13201) ri D.i) (ρ.v 13202) ro D.o) [(tok (D.G.length + 1))] (Env.ofL [.int .i64 ((ri ++ [D.i]).length : Nat)]) rfl (rfl) ⟨(tok (D.G.length + 1)), 3, _, _, rfl, hT3.rows, rfl⟩ ?_
        refine sem_split (fun _ => ?_) (fun h => absurd (show (IntKind.i64.wrap (D.N.sent + D.N.doubled) == (((ri ++ [D.i]).length : Nat) : Int)) = false from h) (by rw [e1]; simp))
        refine sem_step (pushG (pushG D.G (ρ.v 13201) ri D.i) (ρ.v 13202) ro D.o) [(tok ((pushG D.G (ρ.v 13201) ri D.i).length + 1))] (Env.ofL [.int .i64 ((ro ++ [D.o]).length : Nat)]) rfl (rfl) ⟨(tok ((pushG D.G (ρ.v 13201) ri D.i).length + 1)), 3, _, _, rfl, hT3.swap.rows, rfl⟩ ?_
        refine sem_split (fun _ => ?_) (fun h => absurd (show (D.N.delivered == (((ro ++ [D.o]).length : Nat) : Int)) = false from h) (by rw [e2]; simp))
        refine sem_step (pushG (pushG D.G (ρ.v 13201) ri D.i) (ρ.v 13202) ro D.o) [tokAt n 0] ((Env.ofL [.int .i64 (D.N.row.length : Nat)]).ans (encG (pushG (pushG D.G (ρ.v 13201) ri D.i) (ρ.v 13202) ro D.o))) rfl (nx _ _ rfl) ⟨n, D.N, rfl, hT3.is_, rfl, rfl⟩ ?_
        refine sem_split (fun _ => ?_) (fun h => absurd (show (IntKind.i64.wrap (D.N.sent + D.N.doubled) == IntKind.i64.wrap (IntKind.i64.wrap (D.N.delivered + D.N.lost) + ((D.N.row.length : Nat) : Int))) = false from h) (by rw [e1, e3]; simp))
        refine sem_again (Env.from_ _ 13200 ((Env.ofL [.int .i64 (ρ.i 13200 + 1), (tok (D.G.length + 1)), (tok ((pushG D.G (ρ.v 13201) ri D.i).length + 1))]).ans (encG (pushG (pushG D.G (ρ.v 13201) ri D.i) (ρ.v 13202) ro D.o)))) (Env.from_ag _ _ _) ?_ ⟨(pushG (pushG D.G (ρ.v 13201) ri D.i) (ρ.v 13202) ro D.o), D.N, (ri ++ [D.i]), (ro ++ [D.o]), X', k + 1, rfl, ?_, by omega, hT3, hS3, hK3⟩ ?_
        · show [(tok ((pushG D.G (ρ.v 13201) ri D.i).length + 1)), Value.int .i64 (ρ.i 13200 + 1), (tok (D.G.length + 1)), encG (pushG (pushG D.G (ρ.v 13201) ri D.i) (ρ.v 13202) ro D.o)] = [(tok ((pushG D.G (ρ.v 13201) ri D.i).length + 1)), Value.int .i64 (IntKind.i64.wrap (ρ.i 13200 + 1)), (tok (D.G.length + 1)), encG (pushG (pushG D.G (ρ.v 13201) ri D.i) (ρ.v 13202) ro D.o)]
          rw [hw]
        · show ρ.i 13200 + 1 = _
          rw [hi]; rfl
        · show ((L.length : Int) - (ρ.i 13200 + 1)).toNat < ((L.length : Int) - ρ.i 13200).toNat
          omega
      | false =>
        refine sem_split (fun h => by cases h) (fun _ => ?_)
        have hT3 := hT2
        have hK3 := hK2
        have hS3 : Sum D.N.data ((ri ++ [D.i]).map Lt.data) (ro.map Lt.data) X' (k + 1) := by rw [hib, hob] at hS'; simpa using hS'
        obtain ⟨e1, e2, e3⟩ := sums hS3 (by omega)
        rw [List.length_map] at e1 e2 e3
        refine sem_step (pushG D.G (ρ.v 13201) ri D.i) [tokAt n 0] ((Env.ofL [.int .i64 D.N.sent, .int .i64 D.N.doubled, .int .i64 D.N.delivered, .int .i64 D.N.lost]).ans (encG (pushG D.G (ρ.v 13201) ri D.i))) rfl (nx _ _ rfl) ⟨n, D.N, rfl, hT3.is_, rfl, rfl, rfl, rfl, rfl⟩ ?_
        refine sem_step (pushG D.G (ρ.v 13201) ri D.i) [(tok (D.G.length + 1))] (Env.ofL [.int .i64 ((ri ++ [D.i]).length : Nat)]) rfl (rfl) ⟨(tok (D.G.length + 1)), 3, _, _, rfl, hT3.rows, rfl⟩ ?_
        refine sem_split (fun _ => ?_) (fun h => absurd (show (IntKind.i64.wrap (D.N.sent + D.N.doubled) == (((ri ++ [D.i]).length : Nat) : Int)) = false from h) (by rw [e1]; simp))
        refine sem_step (pushG D.G (ρ.v 13201) ri D.i) [(ρ.v 13202)] (Env.ofL [.int .i64 (ro.length : Nat)]) rfl (by show [oneOf (ρ.v 13202), _] = _; rw [oneOf_eq oo]; rfl) ⟨(ρ.v 13202), 3, _, _, rfl, hT3.swap.rows, rfl⟩ ?_
        refine sem_split (fun _ => ?_) (fun h => absurd (show (D.N.delivered == ((ro.length : Nat) : Int)) = false from h) (by rw [e2]; simp))
        refine sem_step (pushG D.G (ρ.v 13201) ri D.i) [tokAt n 0] ((Env.ofL [.int .i64 (D.N.row.length : Nat)]).ans (encG (pushG D.G (ρ.v 13201) ri D.i))) rfl (nx _ _ rfl) ⟨n, D.N, rfl, hT3.is_, rfl, rfl⟩ ?_
        refine sem_split (fun _ => ?_) (fun h => absurd (show (IntKind.i64.wrap (D.N.sent + D.N.doubled) == IntKind.i64.wrap (IntKind.i64.wrap (D.N.delivered + D.N.lost) + ((D.N.row.length : Nat) : Int))) = false from h) (by rw [e1, e3]; simp))
        refine sem_again (Env.from_ _ 13200 ((Env.ofL [.int .i64 (ρ.i 13200 + 1), (tok (D.G.length + 1)), (ρ.v 13202)]).ans (encG (pushG D.G (ρ.v 13201) ri D.i)))) (Env.from_ag _ _ _) ?_ ⟨(pushG D.G (ρ.v 13201) ri D.i), D.N, (ri ++ [D.i]), ro, X', k + 1, rfl, ?_, by omega, hT3, hS3, hK3⟩ ?_
        · show [(ρ.v 13202), Value.int .i64 (ρ.i 13200 + 1), (tok (D.G.length + 1)), encG (pushG D.G (ρ.v 13201) ri D.i)] = [oneOf (ρ.v 13202), Value.int .i64 (IntKind.i64.wrap (ρ.i 13200 + 1)), (tok (D.G.length + 1)), encG (pushG D.G (ρ.v 13201) ri D.i)]
          rw [hw, oneOf_eq oo]
        · show ρ.i 13200 + 1 = _
          rw [hi]; rfl
        · show ((L.length : Int) - (ρ.i 13200 + 1)).toNat < ((L.length : Int) - ρ.i 13200).toNat
          omega
    | false =>
      refine sem_split (fun h => by cases h) (fun _ => ?_)
      cases hob : D.ob with
      | true =>
        refine sem_split (fun _ => ?_) (fun h => by cases h)
        refine sem_step D.G [.agg D.o.cells.toArray] _ rfl (by show [Value.agg #[_, _, oneOf D.o.v], _] = _; rw [oneOf_eq oo1]; rfl) (lit_bs3 oo1) ?_
        refine sem_step (litL D.G D.o) [(ρ.v 13202), tok D.G.length] _ rfl (by show [oneOf (ρ.v 13202), _, _] = _; rw [oneOf_eq oo]; rfl) (lit_app3 hT1.do_ hro) ?_
        have hT3 := ((hT1.swap).push hLo).swap
        have hLo3 : LOk (pushG D.G (ρ.v 13202) ro D.o) D.o := push_one hT1.do_ hLo
        have hK3 : KeepsRo G0 (pushG D.G (ρ.v 13202) ro D.o) := hK1.trans (push_ro hT1.do_)
        have hS3 : Sum D.N.data (ri.map Lt.data) ((ro ++ [D.o]).map Lt.data) X' (k + 1) := by rw [hib, hob] at hS'; simpa using hS'
        refine sem_step (pushG D.G (ρ.v 13202) ro D.o) [(tok (D.G.length + 1)), .agg D.o.cells.toArray] ((Env.ofL [.int .i64 (cntL ((ro ++ [D.o]).map Lt.data) D.o.data : Nat)]).ans (encG (pushG D.G (ρ.v 13202) ro D.o))) rfl (by show [(tok (D.G.length + 1)), Value.agg #[_, _, oneOf D.o.v], _] = _; rw [oneOf_eq oo1]; rfl) ⟨(tok (D.G.length + 1)), (ro ++ [D.o]), D.o, rfl, hT3.swap.rows, hT3.swap.ls, ls_one hLo3, by simp; omega, rfl, rfl⟩ ?_
        refine sem_step (pushG D.G (ρ.v 13202) ro D.o) [(ρ.v 13201), .agg D.o.cells.toArray] ((Env.ofL [.int .i64 (cntL (ri.map Lt.data) D.o.data : Nat)]).ans (encG (pushG D.G (ρ.v 13202) ro D.o))) rfl (by show [oneOf (ρ.v 13201), Value.agg #[_, _, oneOf D.o.v], _] = _; rw [oneOf_eq oi, oneOf_eq oo1]; rfl) ⟨(ρ.v 13201), ri, D.o, rfl, hT3.rows, hT3.ls, ls_one hLo3, by omega, rfl, rfl⟩ ?_
        refine sem_split (fun h => absurd (of_decide_eq_true h : ((cntL ((ro ++ [D.o]).map Lt.data) D.o.data : Nat) : Int) > ((cntL (ri.map Lt.data) D.o.data : Nat) : Int)) (by have := hS3.out_le D.o.data; omega)) (fun _ => ?_)
        obtain ⟨e1, e2, e3⟩ := sums hS3 (by omega)
        rw [List.length_map] at e1 e2 e3
        refine sem_step (pushG D.G (ρ.v 13202) ro D.o) [tokAt n 0] ((Env.ofL [.int .i64 D.N.sent, .int .i64 D.N.doubled, .int .i64 D.N.delivered, .int .i64 D.N.lost]).ans (encG (pushG D.G (ρ.v 13202) ro D.o))) rfl (nx _ _ rfl) ⟨n, D.N, rfl, hT3.is_, rfl, rfl, rfl, rfl, rfl⟩ ?_
        refine sem_step (pushG D.G (ρ.v 13202) ro D.o) [(ρ.v 13201)] (Env.ofL [.int .i64 (ri.length : Nat)]) rfl (by show [oneOf (ρ.v 13201), _] = _; rw [oneOf_eq oi]; rfl) ⟨(ρ.v 13201), 3, _, _, rfl, hT3.rows, rfl⟩ ?_
        refine sem_split (fun _ => ?_) (fun h => absurd (show (IntKind.i64.wrap (D.N.sent + D.N.doubled) == ((ri.length : Nat) : Int)) = false from h) (by rw [e1]; simp))
        refine sem_step (pushG D.G (ρ.v 13202) ro D.o) [(tok (D.G.length + 1))] (Env.ofL [.int .i64 ((ro ++ [D.o]).length : Nat)]) rfl (rfl) ⟨(tok (D.G.length + 1)), 3, _, _, rfl, hT3.swap.rows, rfl⟩ ?_
        refine sem_split (fun _ => ?_) (fun h => absurd (show (D.N.delivered == (((ro ++ [D.o]).length : Nat) : Int)) = false from h) (by rw [e2]; simp))
        refine sem_step (pushG D.G (ρ.v 13202) ro D.o) [tokAt n 0] ((Env.ofL [.int .i64 (D.N.row.length : Nat)]).ans (encG (pushG D.G (ρ.v 13202) ro D.o))) rfl (nx _ _ rfl) ⟨n, D.N, rfl, hT3.is_, rfl, rfl⟩ ?_
        refine sem_split (fun _ => ?_) (fun h => absurd (show (IntKind.i64.wrap (D.N.sent + D.N.doubled) == IntKind.i64.wrap (IntKind.i64.wrap (D.N.delivered + D.N.lost) + ((D.N.row.length : Nat) : Int))) = false from h) (by rw [e1, e3]; simp))
        refine sem_again (Env.from_ _ 13200 ((Env.ofL [.int .i64 (ρ.i 13200 + 1), (ρ.v 13201), (tok (D.G.length + 1))]).ans (encG (pushG D.G (ρ.v 13202) ro D.o)))) (Env.from_ag _ _ _) ?_ ⟨(pushG D.G (ρ.v 13202) ro D.o), D.N, ri, (ro ++ [D.o]), X', k + 1, rfl, ?_, by omega, hT3, hS3, hK3⟩ ?_
        · show [(tok (D.G.length + 1)), Value.int .i64 (ρ.i 13200 + 1), (ρ.v 13201), encG (pushG D.G (ρ.v 13202) ro D.o)] = [(tok (D.G.length + 1)), Value.int .i64 (IntKind.i64.wrap (ρ.i 13200 + 1)), oneOf (ρ.v 13201), encG (pushG D.G (ρ.v 13202) ro D.o)]
          rw [hw, oneOf_eq oi]
        · show ρ.i 13200 + 1 = _
          rw [hi]; rfl
        · show ((L.length : Int) - (ρ.i 13200 + 1)).toNat < ((L.length : Int) - ρ.i 13200).toNat
          omega
      | false =>
        refine sem_split (fun h => by cases h) (fun _ => ?_)
        have hT3 := hT1
        have hK3 := hK1
        have hS3 : Sum D.N.data (ri.map Lt.data) (ro.map Lt.data) X' (k + 1) := by rw [hib, hob] at hS'; simpa using hS'
        obtain ⟨e1, e2, e3⟩ := sums hS3 (by omega)
        rw [List.length_map] at e1 e2 e3
        refine sem_step D.G [tokAt n 0] ((Env.ofL [.int .i64 D.N.sent, .int .i64 D.N.doubled, .int .i64 D.N.delivered, .int .i64 D.N.lost]).ans (encG D.G)) rfl (nx _ _ rfl) ⟨n, D.N, rfl, hT3.is_, rfl, rfl, rfl, rfl, rfl⟩ ?_
        refine sem_step D.G [(ρ.v 13201)] (Env.ofL [.int .i64 (ri.length : Nat)]) rfl (by show [oneOf (ρ.v 13201), _] = _; rw [oneOf_eq oi]; rfl) ⟨(ρ.v 13201), 3, _, _, rfl, hT3.rows, rfl⟩ ?_
        refine sem_split (fun _ => ?_) (fun h => absurd (show (IntKind.i64.wrap (D.N.sent + D.N.doubled) == ((ri.length : Nat) : Int)) = false from h) (by rw [e1]; simp))
        refine sem_step D.G [(ρ.v 13202)] (Env.ofL [.int .i64 (ro.length : Nat)]) rfl (by show [oneOf (ρ.v 13202), _] = _; rw [oneOf_eq oo]; rfl) ⟨(ρ.v 13202), 3, _, _, rfl, hT3.swap.rows, rfl⟩ ?_
        refine sem_split (fun _ => ?_) (fun h => absurd (show (D.N.delivered == ((ro.length : Nat) : Int)) = false from h) (by rw [e2]; simp))
        refine sem_step D.G [tokAt n 0] ((Env.ofL [.int .i64 (D.N.row.length : Nat)]).ans (encG D.G)) rfl (nx _ _ rfl) ⟨n, D.N, rfl, hT3.is_, rfl, rfl⟩ ?_
        refine sem_split (fun _ => ?_) (fun h => absurd (show (IntKind.i64.wrap (D.N.sent + D.N.doubled) == IntKind.i64.wrap (IntKind.i64.wrap (D.N.delivered + D.N.lost) + ((D.N.row.length : Nat) : Int))) = false from h) (by rw [e1, e3]; simp))
        refine sem_again (Env.from_ _ 13200 ((Env.ofL [.int .i64 (ρ.i 13200 + 1), (ρ.v 13201), (ρ.v 13202)]).ans (encG D.G))) (Env.from_ag _ _ _) ?_ ⟨D.G, D.N, ri, ro, X', k + 1, rfl, ?_, by omega, hT3, hS3, hK3⟩ ?_
        · show [(ρ.v 13202), Value.int .i64 (ρ.i 13200 + 1), (ρ.v 13201), encG D.G] = [oneOf (ρ.v 13202), Value.int .i64 (IntKind.i64.wrap (ρ.i 13200 + 1)), oneOf (ρ.v 13201), encG D.G]
          rw [hw, oneOf_eq oi, oneOf_eq oo]
        · show ρ.i 13200 + 1 = _
          rw [hi]; rfl
        · show ((L.length : Int) - (ρ.i 13200 + 1)).toNat < ((L.length : Int) - ρ.i 13200).toNat
          omega
  · have h : ¬ ρ.i 13200 < (L.length : Int) := of_decide_eq_false h
    refine sem_loop (Env.from_ _ 19200 ((Env.ofL [.int .i64 0]).ans (encG G))) (Env.from_ag _ _ _) (by show [Value.int .i64 0, encG G] = [Value.int .i64 0, ρ.g 14199]; rw [hg])
      ⟨G, N, ri, ro, X, k, 0, rfl, rfl, Nat.zero_le _, hT, hS, by omega, hK⟩ (by kernel_rfl) (fun ρ1 ρ2 h => ?_) (fun ρ' hag' hinv => ?_)
    · show ((1000 : Int) - ρ2.i 19200).toNat = ((1000 : Int) - ρ1.i 19200).toNat
      rw [(h 19200 (by decide)).1]
    obtain ⟨G', N', ri', ro', X', k', j, hg', hi', hj, hT', hS', hk', hK'⟩ := hinv
    have hg' : ρ'.g 20199 = encG G' := hg'
    have hi' : ρ'.i 19200 = j := hi'
    have xn' : ρ'.v 2200 = tokAt n 0 := (hag' 2200 (by decide)).2.2.trans xn
    have oi' := hT'.di.one
    have hSl' := hS'.len
    have hSe' := hS'.le
    simp only [List.length_map] at hSl' hSe'
    refine sem_step G' [tokAt n 0] ((Env.ofL [.int .i64 (N'.row.length : Nat)]).ans (encG G')) rfl (by show [oneOf (ρ'.v 2200), ρ'.g 20199] = _; rw [xn', hg']; rfl) ⟨n, N', rfl, hT'.is_, rfl, rfl⟩ ?_
    refine sem_split (fun h => ?_) (fun h => ?_)
    · have h : ρ'.i 19200 < ((N'.row.length : Nat) : Int) := of_decide_eq_true h
      have hlb : lookB N' (ρ'.i 19200) = true := decide_eq_true ⟨by omega, h⟩
      have hs := Step.look hT'.is_ (ρ'.i 19200)
      obtain ⟨Gl, hGl⟩ : ∃ g, g = lookG G' N' (ρ'.i 19200) := ⟨_, rfl⟩
      obtain ⟨lt, hlt⟩ : ∃ l, l = lookL G' N' (ρ'.i 19200) := ⟨_, rfl⟩
      have hLl : LOk Gl lt := by rw [hGl, hlt]; exact ⟨look_dst hT'.is_ _, lookL_len hT'.is_ _⟩
      rw [← hGl] at hs
      have hT2 := hT'.step hs
      have hK2 := hK'.trans (hs.keepsRo hT'.is_)
      have ol := hLl.1.one
      have hpos : 0 < cntL (ri'.map Lt.data) lt.data := by
        refine hS'.row_in ?_
        rw [hlt, look_data]
        exact List.mem_of_getElem? (there_get (by rw [← lookB_data]; exact hlb)).1
      have hlen := hT'.is_.len
      refine sem_step G' [tokAt n 0, .int .i64 (ρ'.i 19200)] ((Env.ofL (lt.cells ++ [Value.bool true])).ans (encG Gl)) rfl (by show [oneOf (ρ'.v 2200), _, _] = _; rw [xn']; rfl) ⟨n, N', _, rfl, hT'.is_, by rw [← hlt]; rfl, by rw [← hlt]; rfl, by rw [← hlt]; rfl, by rw [hlb]; rfl, by rw [← hGl]; rfl⟩ ?_
      refine sem_split (fun _ => ?_) (fun h => by cases h)
      refine sem_step Gl [ρ'.v 13201, .agg lt.cells.toArray] ((Env.ofL [.int .i64 (cntL (ri'.map Lt.data) lt.data : Nat)]).ans (encG Gl)) rfl (by show [oneOf (ρ'.v 13201), Value.agg #[_, _, oneOf lt.v], _] = _; rw [oneOf_eq oi', oneOf_eq ol]; rfl) ⟨_, ri', lt, rfl, hT2.rows, hT2.ls, ls_one hLl, by omega, rfl, rfl⟩ ?_
      refine sem_split (fun h => absurd (show (((cntL (ri'.map Lt.data) lt.data : Nat) : Int) == 0) = true from h) (by simp; omega)) (fun _ => ?_)
      have hw := wrap_up' (i := ρ'.i 19200) (by omega) (by omega)
      refine sem_again (Env.from_ _ 19200 ((Env.ofL [.int .i64 (ρ'.i 19200 + 1)]).ans (encG Gl))) (Env.from_ag _ _ _) ?_ ⟨Gl, N', ri', ro', X', k', j + 1, rfl, ?_, by omega, hT2, hS', hk', hK2⟩ ?_
      · show [Value.int .i64 (ρ'.i 19200 + 1), encG Gl] = [Value.int .i64 (IntKind.i64.wrap (ρ'.i 19200 + 1)), encG Gl]
        rw [hw]
      · show ρ'.i 19200 + 1 = _
        rw [hi']; rfl
      · show ((1000 : Int) - (ρ'.i 19200 + 1)).toNat < ((1000 : Int) - ρ'.i 19200).toNat
        omega
    · refine sem_step G' [] ((Env.ofL [.bool true]).ans (encG (worksG G'))) rfl rfl ⟨rfl, rfl, rfl⟩ ?_
      exact sem_retL rfl rfl rfl (fin (wk hK'))
end Go.Proofs.Yteklnfajpignoaa
