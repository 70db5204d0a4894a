/- What is proved: the walk of NetPlays; NetPlays returns true, whatever comes in. No condition but those each law names. -/
import Derived.Test.YteklnfajpignoaaR8
import Derived.Test.YteklnfajpignoaaN3
import Derived.Test.YteklnfajpignoaaN4
namespace Go.Proofs.Yteklnfajpignoaa
open Sx hiding Sl
set_option maxRecDepth 100000

def qc : List Con := [newC, rnewC, greatC, worksC, lenC 22, idxC 22, loadC 32 (.agg (actE 0)), playsC, waitsC, rwaitsC, countsC, lookC, rlookC, sameLC, eqC 23, neC 23, eqC 25, neC 25, loadC 3 (.int .i64 (.var 0)), nilC]
def qcS : List ConS := [conR newR, conR rnewR, conR greatR, conR worksR, conR lenR, conR (idxR 4), conR (loadRowR 4 (.agg (actE 0))), conR playsR, conR waitsR, conR rwaitsR, conR countsR, conR lookR, conR rlookR, conR sameLR, conR (CmpR NilPtr false), conR (CmpR NilPtr true), conR (CmpR NilPtr false), conR (CmpR NilPtr true), conR (loadR (.int .i64 (.var 0))), conR nilR]
theorem qc_holds : Cons Try.prog qc qcS :=
  ⟨new_holds, rnew_holds, great_holds, works_holds, len_holds Try.underlying22, idx_holds Try.underlying22 (by kernel_rfl), loadRow_holds (by kernel_rfl) (by kernel_rfl) rfl, plays_holds, waits_holds, rwaits_holds, counts_holds, look_holds, rlook_holds, sameL_holds,
    (ptr_holds Try.underlying23).1, (ptr_holds Try.underlying23).2, (ptr_holds Try.underlying25).1, (ptr_holds Try.underlying25).2, load_holds (by kernel_rfl) rfl, nil_holds, trivial⟩
def qLT : List (Nat × LS) := [(6, ⟨[(7, fun b => .int .i64 (.var b))], [], [], true⟩), (14, ⟨[(12, fun b => .int .i64 (.var b))], [], [], true⟩)]
def qInv6 (G0 : List Ob) (x y : Nat) (L : List AD) (nv : Nat) (ρ : Env) : Prop := ∃ G N R, ∃ k : Nat, ρ.g (nv + 999) = encG G ∧ ρ.i nv = k ∧ k ≤ L.length ∧ Both G x N y R ∧ R.all.length ≤ k ∧ R.cuts.length ≤ k ∧ KeepsRo G0 G
def qInv14 (G0 : List Ob) (x y : Nat) (nv : Nat) (ρ : Env) : Prop := ∃ G N R, ∃ k : Nat, ρ.g (nv + 999) = encG G ∧ ρ.i nv = k ∧ k ≤ N.row.length ∧ Both G x N y R ∧ R.all.length ≤ 1000 ∧ KeepsRo G0 G
def qLQ (G0 : List Ob) (x y : Nat) (L : List AD) : LoopS := ⟨fun j nv ρ => match j with | 6 => qInv6 G0 x y L nv ρ | _ => qInv14 G0 x y nv ρ, fun j nv ρ => match j with | 6 => (L.length - ρ.i nv).toNat | _ => (1000000 - ρ.i nv).toNat⟩
def treeNetPlays : Tree :=
 (.call 0 2200 [(.int .i64 (.var 0)), (.var 199)]
 (.call 1 5200 [(.int .i64 (.var 0)), (.var 3199)]
 (.call 14 8200 [(.hnd 2200), (.lit (.pointer none)), (.var 6199)]
 (.call 16 10200 [(.hnd 5200), (.lit (.pointer none)), (.var 6199)]
 (.split (.iff (.var 8200) (.var 10200))
 (.call 2 14200 [(.hnd 1), (.var 6199)]
 (.split (.var 14200)
 (.call 14 21200 [(.hnd 2200), (.lit (.pointer none)), (.var 15199)]
 (.call 16 23200 [(.hnd 5200), (.lit (.pointer none)), (.var 15199)]
 (.split (.iff (.var 21200) (.var 23200))
 (.call 3 26200 [(.var 15199)]
 (leafG (.bool (.var 26200)) .nil 27199))
 (leafG (.bool (.lit false)) .nil 15199))))
 (.call 14 18200 [(.hnd 2200), (.lit (.pointer none)), (.var 15199)]
 (.split (.var 18200)
 (.call 14 21200 [(.hnd 2200), (.lit (.pointer none)), (.var 15199)]
 (.call 16 23200 [(.hnd 5200), (.lit (.pointer none)), (.var 15199)]
 (.split (.iff (.var 21200) (.var 23200))
 (.call 3 26200 [(.var 15199)]
 (leafG (.bool (.var 26200)) .nil 27199))
 (leafG (.bool (.lit false)) .nil 15199))))
 (.loop 6 21200 [(21200, (.int .i64 (.lit 0))), (22199, (.var 15199))]
 (.call 4 24200 [(.hnd 1), (.var 22199)]
 (.split (.cmp .lss (.var 21200) (.var 24200))
 (.call 5 30200 [(.hnd 1), (.int .i64 (.var 21200)), (.var 22199)]
 (.call 6 31200 [(.pla (.var 30200) (.var 30201) 0), (.var 22199)]
 (.call 7 32200 [(.hnd 2200), (.hnd 5200), (.agg ([(.int .i64 (.var 31200)), (.int .i64 (.var 31201)), (.int .i64 (.var 31202)), (.hnd 31203)])), (.var 22199)]
 (.split (.var 32200)
 (.call 8 36200 [(.hnd 2200), (.var 33199)]
 (.call 9 38200 [(.hnd 5200), (.var 37199)]
 (.split (.cmp .eql (.var 36200) (.var 38200))
 (.call 10 42200 [(.hnd 2200), (.var 39199)]
 (.call 19 54200 [(.hnd 5200), (.var 43199)]
 (.call 18 57200 [(.pla (.var 54200) (.var 54201) 3), (.var 43199)]
 (.split (.cmp .eql (.var 42200) (.var 57200))
 (.call 19 62200 [(.hnd 5200), (.var 43199)]
 (.call 18 65200 [(.pla (.var 62200) (.var 62201) 4), (.var 43199)]
 (.split (.cmp .eql (.var 42201) (.var 65200))
 (.call 19 71200 [(.hnd 5200), (.var 43199)]
 (.call 18 74200 [(.pla (.var 71200) (.var 71201) 5), (.var 43199)]
 (.split (.cmp .eql (.var 42202) (.var 74200))
 (.call 19 80200 [(.hnd 5200), (.var 43199)]
 (.call 18 83200 [(.pla (.var 80200) (.var 80201) 6), (.var 43199)]
 (.split (.cmp .eql (.var 42203) (.var 83200))
 (.again 6 21200 [(21200, (.int .i64 (.bin .add .i64 (.var 21200) (.lit 1)))), (22199, (.var 43199))])
 (leafG (.bool (.lit false)) .nil 43199))))
 (leafG (.bool (.lit false)) .nil 43199))))
 (leafG (.bool (.lit false)) .nil 43199))))
 (leafG (.bool (.lit false)) .nil 43199)))))
 (leafG (.bool (.lit false)) .nil 39199))))
 (leafG (.bool (.lit false)) .nil 33199)))))
 (.loop 14 27200 [(27200, (.int .i64 (.lit 0))), (28199, (.var 22199))]
 (.call 8 30200 [(.hnd 2200), (.var 28199)]
 (.split (.cmp .lss (.var 27200) (.var 30200))
 (.call 11 34200 [(.hnd 2200), (.int .i64 (.var 27200)), (.var 31199)]
 (.call 12 43200 [(.hnd 5200), (.int .i64 (.var 27200)), (.var 35199)]
 (.call 13 52200 [(.agg ([(.int .i64 (.var 34200)), (.int .i64 (.var 34201)), (.hnd 34202)])), (.agg ([(.int .i64 (.var 43200)), (.int .i64 (.var 43201)), (.hnd 43202), (.bool (.var 43203))])), (.var 44199)]
 (.split (.var 52200)
 (.again 14 27200 [(27200, (.int .i64 (.bin .add .i64 (.var 27200) (.lit 1)))), (28199, (.var 53199))])
 (leafG (.bool (.lit false)) .nil 53199)))))
 (.call 3 32200 [(.var 31199)]
 (leafG (.bool (.var 32200)) .nil 33199))))))))))))
 (.call 14 21200 [(.hnd 2200), (.lit (.pointer none)), (.var 6199)]
 (.call 16 23200 [(.hnd 5200), (.lit (.pointer none)), (.var 6199)]
 (.split (.iff (.var 21200) (.var 23200))
 (.call 3 26200 [(.var 6199)]
 (leafG (.bool (.var 26200)) .nil 27199))
 (leafG (.bool (.lit false)) .nil 6199)))))))))
theorem plays_sem {G0 : List Ob} {v : Value} {L : List AD} (a : Int) (hA : Acts G0 v L) (hRg : ∀ x ∈ L, Rng x.a) (hro0 : ∀ (n : Nat) o, G0[n]? = some o → ∃ s len cells, o = .ro s len cells) :
    treeSem qcS (qLQ G0 (G0.length + 1) (G0.length + 2) L) (KL G0) ((Env.ofL [.int .i64 a, v]).st (encG G0)) treeNetPlays := by
  have ov := hA.sl.one
  have fin : ∀ {G' : List Ob}, KeepsRo G0 G' → ∀ (n : Nat) o, G0[n]? = some o → G'[n]? = some o := fun h n o ho => by
    obtain ⟨s, le, c, rfl⟩ := hro0 n o ho
    exact h _ _ _ _ ho
  have wk : ∀ {G' : List Ob}, KeepsRo G0 G' → KeepsRo G0 (worksG G') := fun h => h.trans (works_ro _)
  refine sem_step G0 [.int .i64 a] ((Env.ofL [newV G0 a]).ans (encG (newG G0 a))) rfl rfl ⟨a, rfl, rfl, rfl⟩ ?_
  have hnr := new_ro G0 a
  by_cases hbad : a < 1 ∨ 32 < a
  · have e1 : newV G0 a = .pointer none := by unfold newV; rw [if_pos hbad]
    have e2 : newG G0 a = G0 := by unfold newG; rw [if_pos hbad]
    have e3 : rnewV G0 a = .pointer none := by unfold rnewV; rw [if_pos hbad]
    have e4 : rnewG G0 a = G0 := by unfold rnewG; rw [if_pos hbad]
    rw [e1, e2]
    refine sem_step G0 [.int .i64 a] ((Env.ofL [.pointer none]).ans (encG G0)) rfl rfl ⟨a, rfl, by rw [e3]; rfl, by rw [e4]; rfl⟩ ?_
    refine sem_step G0 [.pointer none, .pointer none] (Env.ofL [.bool true]) rfl rfl ⟨_, _, true, rfl, ⟨rfl, rfl, .inl rfl⟩, rfl⟩ ?_
    refine sem_step G0 [.pointer none, .pointer none] (Env.ofL [.bool true]) rfl rfl ⟨_, _, true, rfl, ⟨rfl, rfl, .inl rfl⟩, rfl⟩ ?_
    refine sem_split (fun _ => ?_) (fun h => by cases h)
    refine sem_step G0 [v] ((Env.ofL [.bool (greatB L)]).ans (encG G0)) rfl (by show [oneOf v, _] = _; rw [oneOf_eq ov]; rfl) ⟨v, L, rfl, hA, rfl, rfl⟩ ?_
    refine sem_split (fun _ => ?_) (fun _ => ?_)
    · refine sem_step G0 [.pointer none, .pointer none] (Env.ofL [.bool true]) rfl rfl ⟨_, _, true, rfl, ⟨rfl, rfl, .inl rfl⟩, rfl⟩ ?_
      refine sem_step G0 [.pointer none, .pointer none] (Env.ofL [.bool true]) rfl rfl ⟨_, _, true, rfl, ⟨rfl, rfl, .inl rfl⟩, rfl⟩ ?_
      refine sem_split (fun _ => ?_) (fun h => by cases h)
      refine sem_step G0 [] ((Env.ofL [.bool true]).ans (encG (worksG G0))) rfl rfl ⟨rfl, rfl, rfl⟩ ?_
      exact sem_retL rfl rfl rfl (fin (wk fun _ _ _ _ h => h))
    · refine sem_step G0 [.pointer none, .pointer none] (Env.ofL [.bool true]) rfl rfl ⟨_, _, true, rfl, ⟨rfl, rfl, .inl rfl⟩, rfl⟩ ?_
      refine sem_split (fun _ => ?_) (fun h => by cases h)
      refine sem_step G0 [.pointer none, .pointer none] (Env.ofL [.bool true]) rfl rfl ⟨_, _, true, rfl, ⟨rfl, rfl, .inl rfl⟩, rfl⟩ ?_
      refine sem_step G0 [.pointer none, .pointer none] (Env.ofL [.bool true]) rfl rfl ⟨_, _, true, rfl, ⟨rfl, rfl, .inl rfl⟩, rfl⟩ ?_
      refine sem_split (fun _ => ?_) (fun h => by cases h)
      refine sem_step G0 [] ((Env.ofL [.bool true]).ans (encG (worksG G0))) rfl rfl ⟨rfl, rfl, rfl⟩ ?_
      exact sem_retL rfl rfl rfl (fin (wk fun _ _ _ _ h => h))
  have hnv : newV G0 a = tokAt (G0.length + 1) 0 := by unfold newV; rw [if_neg hbad]
  have hl1 : (newG G0 a).length = G0.length + 2 := by unfold newG; rw [if_neg hbad]; simp
  obtain ⟨x, hx⟩ : ∃ x, x = G0.length + 1 := ⟨_, rfl⟩
  obtain ⟨y, hy⟩ : ∃ y, y = G0.length + 2 := ⟨_, rfl⟩
  have is0 : IsNet (newG G0 a) x (newNet a G0.length) := by rw [hx]; exact new_is G0 hbad
  have is1 : IsRef (rnewG (newG G0 a) a) y (RefM.new a) := by have := rnew_is (newG G0 a) hbad; rw [hl1, ← hy] at this; exact this
  have hrv : rnewV (newG G0 a) a = tokAt y 0 := by unfold rnewV; rw [if_neg hbad, hl1, hy]
  have hkk := rnew_keeps (newG G0 a) a
  rw [hnv, ← hx, ← hy]
  obtain ⟨G1, hG1⟩ : ∃ g, g = rnewG (newG G0 a) a := ⟨_, rfl⟩
  have hr1 : KeepsRo G0 G1 := by rw [hG1]; exact hnr.trans fun k s m c hk => hkk k _ hk
  rw [← hG1] at is1 hkk
  refine sem_step (newG G0 a) [.int .i64 a] ((Env.ofL [tokAt y 0]).ans (encG G1)) rfl rfl ⟨a, rfl, by rw [hrv]; rfl, by rw [← hG1]; rfl⟩ ?_
  have is2 : IsNet G1 x (newNet a G0.length) := (Step.of_keeps is0 hkk (by rw [hG1]; unfold rnewG; rw [if_neg hbad]; simp)).is_
  have hx1 : x < G1.length := (List.getElem?_eq_some_iff.1 is2.ob).1
  have hy1 : y < G1.length := (List.getElem?_eq_some_iff.1 is1.ob).1
  refine sem_step G1 [tokAt x 0, .pointer none] (Env.ofL [.bool false]) rfl rfl ⟨_, _, false, rfl, ⟨rfl, rfl, .inr ⟨_, _, rfl, hx1⟩⟩, rfl⟩ ?_
  refine sem_step G1 [tokAt y 0, .pointer none] (Env.ofL [.bool false]) rfl rfl ⟨_, _, false, rfl, ⟨rfl, rfl, .inr ⟨_, _, rfl, hy1⟩⟩, rfl⟩ ?_
  refine sem_split (fun _ => ?_) (fun h => by cases h)
  have hA1 := hA.keep hr1
  refine sem_step G1 [v] ((Env.ofL [.bool (greatB L)]).ans (encG G1)) rfl (by show [oneOf v, _] = _; rw [oneOf_eq ov]; rfl) ⟨v, L, rfl, hA1, rfl, rfl⟩ ?_
  refine sem_split (fun _ => ?_) (fun h => ?_)
  · refine sem_step G1 [tokAt x 0, .pointer none] (Env.ofL [.bool false]) rfl rfl ⟨_, _, false, rfl, ⟨rfl, rfl, .inr ⟨_, _, rfl, hx1⟩⟩, rfl⟩ ?_
    refine sem_step G1 [tokAt y 0, .pointer none] (Env.ofL [.bool false]) rfl rfl ⟨_, _, false, rfl, ⟨rfl, rfl, .inr ⟨_, _, rfl, hy1⟩⟩, rfl⟩ ?_
    refine sem_split (fun _ => ?_) (fun h => by cases h)
    refine sem_step G1 [] ((Env.ofL [.bool true]).ans (encG (worksG G1))) rfl rfl ⟨rfl, rfl, rfl⟩ ?_
    exact sem_retL rfl rfl rfl (fin (wk hr1))
  have hgr : greatB L = false := h
  have hsm : L.length ≤ 200 ∧ ∀ x ∈ L, x.bs.length ≤ 500 := by
    unfold greatB at hgr
    rw [Bool.or_eq_false_iff, decide_eq_false_iff_not, List.any_eq_false] at hgr
    exact ⟨by omega, fun x hx => by have := hgr.2 x hx; simpa using this⟩
  refine sem_step G1 [tokAt x 0, .pointer none] (Env.ofL [.bool false]) rfl rfl ⟨_, _, false, rfl, ⟨rfl, rfl, .inr ⟨_, _, rfl, hx1⟩⟩, rfl⟩ ?_
  refine sem_split (fun h => by cases h) (fun _ => ?_)
  refine sem_loop (Env.from_ _ 21200 ((Env.ofL [.int .i64 0]).ans (encG G1))) (Env.from_ag _ _ _) rfl
    ⟨G1, newNet a G0.length, RefM.new a, 0, rfl, rfl, Nat.zero_le _, ⟨is2, is1, by omega, Alike.new a⟩, Nat.le_refl _, Nat.le_refl _, hr1⟩ (by kernel_rfl) (fun ρ1 ρ2 h => ?_) (fun ρ hag hinv => ?_)
  · show ((L.length : Int) - ρ2.i 21200).toNat = ((L.length : Int) - ρ1.i 21200).toNat
    rw [(h 21200 (by decide)).1]
  obtain ⟨G, N, R, k, hg, hi, hk, hB, hal, hcl, hK⟩ := hinv
  have hg : ρ.g 22199 = encG G := hg
  have hi : ρ.i 21200 = k := hi
  have x0 : ρ.v 1 = v := (hag 1 (by decide)).2.2
  have xn : ρ.v 2200 = tokAt x 0 := (hag 2200 (by decide)).2.2
  have xr : ρ.v 5200 = tokAt y 0 := (hag 5200 (by decide)).2.2
  have hA2 := hA.keep hK
  refine sem_step G [v] (Env.ofL [.int .i64 L.length]) rfl (by show [oneOf (ρ.v 1), ρ.g 22199] = _; rw [x0, hg, oneOf_eq ov]; rfl) ⟨v, 4, _, _, rfl, hA2.sl, rfl⟩ ?_
  refine sem_split (fun h => ?_) (fun h => ?_)
  · have h : ρ.i 21200 < (L.length : Int) := of_decide_eq_true h
    have ka : k < L.length := by omega
    obtain ⟨m, p, all, q1, q2, q3, q4⟩ := sl_at hA2.sl (by decide) (i := ρ.i 21200) (by omega) h
    obtain ⟨z, hz⟩ : ∃ z, z = L[k] := ⟨_, rfl⟩
    have hzm : z ∈ L := by rw [hz]; exact List.getElem_mem _
    have hb := (hA2.body z hzm).1
    have hbl := hsm.2 z hzm
    have oz := hb.one
    have hw := wrap_up' (i := ρ.i 21200) (by omega) (by omega)
    refine sem_step G [v, .int .i64 (ρ.i 21200)] _ rfl (by show [oneOf (ρ.v 1), Value.int .i64 (ρ.i 21200), ρ.g 22199] = _; rw [x0, hg, oneOf_eq ov]; rfl) q1 ?_
    refine sem_step G [tokAt m p] (Env.ofL (AD.cells z)) rfl (by show [tokAt m (p + 0), ρ.g 22199] = _; rw [hg]; rfl) ⟨m, p, all, rfl, q2, q3, ?_⟩ ?_
    · show Value.agg #[.int .i64 z.k, .int .i64 z.a, .int .i64 z.b, oneOf z.v] = _
      rw [oneOf_eq oz]
      have e4 : (all.drop p).take 4 = AD.cells z := by
        apply List.ext_getElem?
        intro j
        by_cases hj : j < 4
        · rw [List.getElem?_take_of_lt hj, List.getElem?_drop, q4 j hj, hi, Int.toNat_natCast, rowA_at ka hj, hz]
        · rw [List.getElem?_eq_none (by rw [List.length_take]; omega), List.getElem?_eq_none (by show 4 ≤ j; omega)]
      rw [e4]
      rfl
    have hO := plO_ok hB (hRg z hzm) (show z.bs.length ≤ 1000000 by omega)
    obtain ⟨O, hOe⟩ : ∃ O, O = plO G x N y R z := ⟨_, rfl⟩
    rw [← hOe] at hO
    have hB2 := hO.both
    have ha2 := hO.all
    have hc2 := hO.cut
    have hK2 := hK.trans hO.ro
    refine sem_step G [tokAt x 0, tokAt y 0, .agg (AD.cells z).toArray] ((Env.ofL [.bool true]).ans (encG O.G)) rfl (by show [oneOf (ρ.v 2200), oneOf (ρ.v 5200), Value.agg #[.int .i64 z.k, .int .i64 z.a, .int .i64 z.b, oneOf z.v], ρ.g 22199] = _; rw [xn, xr, hg, oneOf_eq oz]; rfl)
      ⟨x, N, y, R, z, rfl, hB, hRg z hzm, hb, by omega, by omega, by omega, rfl, by rw [← hOe]; rfl⟩ ?_
    refine sem_split (fun _ => ?_) (fun h => by cases h)
    have hlr : O.N.row.length = O.R.waits := by rw [len_data]; exact hB2.alike.waits
    refine sem_step O.G [tokAt x 0] ((Env.ofL [.int .i64 O.R.waits]).ans (encG O.G)) rfl (by show [oneOf (ρ.v 2200), _] = _; rw [xn]; rfl) ⟨x, O.N, rfl, hB2.net, by rw [hlr]; rfl, rfl⟩ ?_
    refine sem_step O.G [tokAt y 0] ((Env.ofL [.int .i64 O.R.waits]).ans (encG O.G)) rfl (by show [oneOf (ρ.v 5200), _] = _; rw [xr]; rfl) ⟨y, O.R, rfl, hB2.ref, by omega, rfl, rfl⟩ ?_
    refine sem_split (fun _ => ?_) (fun h => absurd (show (((O.R.waits : Nat) : Int) == ((O.R.waits : Nat) : Int)) = false from h) (by simp))
    have c0 : O.N.sent = O.R.n0 := hB2.alike.s
    have c1 : O.N.doubled = O.R.n1 := hB2.alike.d
    have c2 : O.N.delivered = O.R.n2 := hB2.alike.v
    have c3 : O.N.lost = O.R.n3 := hB2.alike.l
    refine sem_step O.G [tokAt x 0] ((Env.ofL [.int .i64 O.R.n0, .int .i64 O.R.n1, .int .i64 O.R.n2, .int .i64 O.R.n3]).ans (encG O.G)) rfl (by show [oneOf (ρ.v 2200), _] = _; rw [xn]; rfl) ⟨x, O.N, rfl, hB2.net, by rw [c0]; rfl, by rw [c1]; rfl, by rw [c2]; rfl, by rw [c3]; rfl, rfl⟩ ?_
    have hy2 : y < O.G.length := (List.getElem?_eq_some_iff.1 hB2.ref.ob).1
    have nilS : ∀ {ρ' : Env} {b : Nat} {t : Tree}, ρ'.v 5200 = ρ.v 5200 → ρ'.g 43199 = encG O.G → treeSem qcS (qLQ G0 x y L) (KL G0) (ρ'.from_ b (Env.ofL [.int .i64 y, .int .i64 0])) t → treeSem qcS (qLQ G0 x y L) (KL G0) ρ' (.call 19 b [(.hnd 5200), (.var 43199)] t) := fun e1 e2 h =>
      sem_step O.G [tokAt y 0] (Env.ofL [.int .i64 y, .int .i64 0]) rfl (by show [oneOf (Env.v _ 5200), Env.g _ 43199] = _; rw [e1, e2, xr]; rfl) ⟨y, 0, rfl, hy2, rfl, rfl⟩ h
    refine nilS rfl rfl ?_
    refine sem_step O.G [tokAt y 3] (Env.ofL [.int .i64 O.R.n0]) rfl rfl ⟨y, 3, _, _, rfl, cells_ptr hB2.ref.ob, rfl, rfl⟩ ?_
    refine sem_split (fun _ => ?_) (fun h => absurd (show (O.R.n0 == O.R.n0) = false from h) (by simp))
    refine nilS rfl rfl ?_
    refine sem_step O.G [tokAt y 4] (Env.ofL [.int .i64 O.R.n1]) rfl rfl ⟨y, 4, _, _, rfl, cells_ptr hB2.ref.ob, rfl, rfl⟩ ?_
    refine sem_split (fun _ => ?_) (fun h => absurd (show (O.R.n1 == O.R.n1) = false from h) (by simp))
    refine nilS rfl rfl ?_
    refine sem_step O.G [tokAt y 5] (Env.ofL [.int .i64 O.R.n2]) rfl rfl ⟨y, 5, _, _, rfl, cells_ptr hB2.ref.ob, rfl, rfl⟩ ?_
    refine sem_split (fun _ => ?_) (fun h => absurd (show (O.R.n2 == O.R.n2) = false from h) (by simp))
    refine nilS rfl rfl ?_
    refine sem_step O.G [tokAt y 6] (Env.ofL [.int .i64 O.R.n3]) rfl rfl ⟨y, 6, _, _, rfl, cells_ptr hB2.ref.ob, rfl, rfl⟩ ?_
    refine sem_split (fun _ => ?_) (fun h => absurd (show (O.R.n3 == O.R.n3) = false from h) (by simp))
    refine sem_again (Env.from_ _ 21200 ((Env.ofL [.int .i64 (ρ.i 21200 + 1)]).ans (encG O.G))) (Env.from_ag _ _ _) ?_ ⟨O.G, O.N, O.R, k + 1, rfl, ?_, by omega, hB2, by omega, by omega, hK2⟩ ?_
    · show [Value.int .i64 (ρ.i 21200 + 1), encG O.G] = [Value.int .i64 (IntKind.i64.wrap (ρ.i 21200 + 1)), encG O.G]
      rw [hw]
    · show ρ.i 21200 + 1 = _
      rw [hi]; rfl
    · show ((L.length : Int) - (ρ.i 21200 + 1)).toNat < ((L.length : Int) - ρ.i 21200).toNat
      omega
  · have h : ¬ ρ.i 21200 < (L.length : Int) := of_decide_eq_false h
    refine sem_loop (Env.from_ _ 27200 ((Env.ofL [.int .i64 0]).ans (encG G))) (Env.from_ag _ _ _) (by show [Value.int .i64 0, encG G] = [Value.int .i64 0, ρ.g 22199]; rw [hg])
      ⟨G, N, R, 0, rfl, rfl, Nat.zero_le _, hB, by omega, hK⟩ (by kernel_rfl) (fun ρ1 ρ2 h => ?_) (fun ρ' hag' hinv => ?_)
    · show ((1000000 : Int) - ρ2.i 27200).toNat = ((1000000 : Int) - ρ1.i 27200).toNat
      rw [(h 27200 (by decide)).1]
    clear hB hal hcl hK hA2
    obtain ⟨G', N', R', j, hg', hi', hj, hB', hal', hK'⟩ := hinv
    have hg' : ρ'.g 28199 = encG G' := hg'
    have hi' : ρ'.i 27200 = j := hi'
    have xn' : ρ'.v 2200 = tokAt x 0 := (hag' 2200 (by decide)).2.2.trans xn
    have xr' : ρ'.v 5200 = tokAt y 0 := (hag' 5200 (by decide)).2.2.trans xr
    have hlen := hB'.net.len
    refine sem_step G' [tokAt x 0] ((Env.ofL [.int .i64 (N'.row.length : Nat)]).ans (encG G')) rfl (by show [oneOf (ρ'.v 2200), ρ'.g 28199] = _; rw [xn', hg']; rfl) ⟨x, N', rfl, hB'.net, rfl, rfl⟩ ?_
    refine sem_split (fun h => ?_) (fun h => ?_)
    · have h : ρ'.i 27200 < ((N'.row.length : Nat) : Int) := of_decide_eq_true h
      have hkr : Rng (ρ'.i 27200) := ⟨by omega, by omega⟩
      have hw := wrap_up' (i := ρ'.i 27200) (by omega) (by omega)
      have hs := Step.look hB'.net (ρ'.i 27200)
      have hr1 := hB'.ref.net hB'.net hB'.ne hs
      have hkk := rlook_fr (G := lookG G' N' (ρ'.i 27200)) (R := R') (ρ'.i 27200)
      have hd := look_dst hB'.net (ρ'.i 27200)
      have hd2 : Dst (rlookG (lookG G' N' (ρ'.i 27200)) R' (ρ'.i 27200)) _ 1 _ _ := Dst.mono hd fun d => hkk.1 d _
      have hlb : lookB N' (ρ'.i 27200) = true := decide_eq_true ⟨by omega, h⟩
      have hb : R'.lookB (ρ'.i 27200) = true := by rw [← hB'.alike.there hkr, ← lookB_data]; exact hlb
      have hdt := look_data G' N' (ρ'.i 27200)
      have hll := lookL_len hB'.net (ρ'.i 27200)
      obtain ⟨p, hp⟩ : ∃ p, p = lookL G' N' (ρ'.i 27200) := ⟨_, rfl⟩
      obtain ⟨q, hq⟩ : ∃ q, q = rlookL (lookG G' N' (ρ'.i 27200)) R' (ρ'.i 27200) := ⟨_, rfl⟩
      obtain ⟨G2, hG2⟩ : ∃ g, g = lookG G' N' (ρ'.i 27200) := ⟨_, rfl⟩
      obtain ⟨G3, hG3⟩ : ∃ g, g = rlookG G2 R' (ρ'.i 27200) := ⟨_, rfl⟩
      have hqd : Dst G3 q.v 1 q.bs.length (q.bs.map (Value.int .u8)) ∧ p.data = q.data := by
        have e1 : G3 = cpG G2 (R'.lookO (ρ'.i 27200)).bs := by rw [hG3]; unfold rlookG; rw [if_pos hb]
        have e2 : q = { R'.lookO (ρ'.i 27200) with v := cpV G2 (R'.lookO (ρ'.i 27200)).bs } := by rw [hq, hG2]; unfold rlookL; rw [if_pos hb]
        rw [e1, e2, hp, hdt, hB'.alike.look hkr hb]
        exact ⟨(cp_at _ _).dst, rfl⟩
      rw [← hp] at hd hd2 hll
      rw [← hG2] at hs hr1 hd hd2 hkk hq
      rw [← hG3] at hd2 hkk
      have hB2 : Both G2 x N' y R' := ⟨hs.is_, hr1, hB'.ne, hB'.alike⟩
      have hB3 : Both G3 x N' y R' := ⟨(Step.of_keeps hB2.net hkk.1 hkk.2).is_, hr1.keeps hkk.1, hB'.ne, hB'.alike⟩
      have hK3 : KeepsRo G0 G3 := (hK'.trans (hs.keepsRo hB'.net)).trans fun n s m c hn => hkk.1 n _ hn
      have op := hd.one
      have oq := hqd.1.one
      refine sem_step G' [tokAt x 0, .int .i64 (ρ'.i 27200)] ((Env.ofL (p.cells ++ [.bool true])).ans (encG G2)) rfl (by show [oneOf (ρ'.v 2200), _, encG G'] = _; rw [xn']; rfl) ⟨x, N', _, rfl, hB'.net, by rw [← hp]; rfl, by rw [← hp]; rfl, by rw [← hp]; rfl, by rw [hlb]; rfl, by rw [← hG2]; rfl⟩ ?_
      refine sem_step G2 [tokAt y 0, .int .i64 (ρ'.i 27200)] ((Env.ofL (q.cells ++ [.bool true])).ans (encG G3)) rfl (by show [oneOf (ρ'.v 5200), _, encG G2] = _; rw [xr']; rfl) ⟨y, R', _, rfl, hr1, by omega, by rw [← hq]; rfl, by rw [← hq]; rfl, by rw [← hq]; rfl, by rw [← hq]; rfl, by rw [hb]; rfl, by rw [← hG3]; rfl⟩ ?_
      refine sem_step G3 [.agg p.cells.toArray, .agg q.cells.toArray] ((Env.ofL [.bool true]).ans (encG G3)) rfl
        (by show [Value.agg #[.int .i64 p.f, .int .i64 p.t, oneOf p.v], Value.agg #[.int .i64 q.f, .int .i64 q.t, oneOf q.v, .bool q.w], _] = _; rw [oneOf_eq op, oneOf_eq oq]; rfl) ⟨p, q, rfl, dst_sl hd2 (by simp), dst_sl hqd.1 (by simp), hll, by rw [hqd.2, eqL_self]; rfl, rfl⟩ ?_
      refine sem_split (fun _ => ?_) (fun h => by cases h)
      refine sem_again (Env.from_ _ 27200 ((Env.ofL [.int .i64 (ρ'.i 27200 + 1)]).ans (encG G3))) (Env.from_ag _ _ _) ?_ ⟨G3, N', R', j + 1, rfl, ?_, by omega, hB3, hal', hK3⟩ ?_
      · show [Value.int .i64 (ρ'.i 27200 + 1), encG G3] = [Value.int .i64 (IntKind.i64.wrap (ρ'.i 27200 + 1)), encG G3]
        rw [hw]
      · show ρ'.i 27200 + 1 = _
        rw [hi']; rfl
      · show ((1000000 : Int) - (ρ'.i 27200 + 1)).toNat < ((1000000 : Int) - ρ'.i 27200).toNat
        omega
    · refine sem_step G' [] ((Env.ofL [.bool true]).ans (encG (worksG G'))) rfl rfl ⟨rfl, rfl, rfl⟩ ?_
      exact sem_retL rfl rfl rfl (fin (wk hK'))
end Go.Proofs.Yteklnfajpignoaa

namespace Go.Proofs.Yteklnfajpignoaa
open Sx hiding Sl
set_option maxRecDepth 100000

theorem wf_rng {k : Int} (h : Lit.wf (.int .i64 k) = true) : Rng k := by
  simp [Lit.wf, IntKind.min, IntKind.max, IntKind.signed, IntKind.bits] at h
  unfold Rng
  omega
theorem Plays_any {w : World} {v : Value} {L : List AcW} (hL : ActsW w v L) (hR : ∀ x ∈ L, Lit.wf (.int .i64 x.a) = true) (a : Int) : Calls Try.prog 3 #[.int .i64 a, v] w (Ret (.bool true) w) := by
  obtain ⟨R, v', L', hL', H, hA, hv, hin⟩ := acts_in' hL
  have ov := hA.sl.one
  have hRg : ∀ x ∈ L', Rng x.a := fun x hx => by
    rw [hL'] at hx
    obtain ⟨j, y, hy, rfl⟩ := adsFrom_mem hx
    exact wf_rng (hR y (List.mem_of_getElem? hy))
  have := law_of_run (P := Try.prog) (cs := qc) (S := qcS) (LT := qLT) (depth := 0) (fuel := 10) (nv := 200) (f := 3) (av := [.int .i64 (.var 0), .hnd 1]) (T := treeNetPlays) qc_holds (by kernel_rfl) (by kernel_rfl) (by kernel_rfl) (vs := [.int .i64 a, v']) H (ro_all R)
    (fun u hu => by
      rw [List.length_map]
      simp only [List.mem_cons, List.not_mem_nil, or_false] at hu
      rcases hu with rfl | rfl
      · exact Inv.of_const fun _ => rfl
      · exact hin)
    ⟨qLQ (R.map RoW.ob) ((R.map RoW.ob).length + 1) ((R.map RoW.ob).length + 2) L', (Env.ofL [.int .i64 a, v']).st (encG (R.map RoW.ob)), by show _ = [Value.int .i64 a, oneOf v']; rw [oneOf_eq ov], rfl, plays_sem a hA hRg (ro_all R)⟩
  rw [← hv]
  exact this
end Go.Proofs.Yteklnfajpignoaa
