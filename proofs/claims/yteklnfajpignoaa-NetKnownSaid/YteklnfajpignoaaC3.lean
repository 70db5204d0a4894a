/- What is proved: the contract of works: it answers true. No condition. -/
import Derived.Test.YteklnfajpignoaaC2
namespace Go.Proofs.Yteklnfajpignoaa
open Sx
set_option maxRecDepth 100000

def wp : List Con := [newC, sendC, dblC, dlvC, losC, waitsC, cutC, countsC, eqC 23, neC 23, bsC 30 1, convC 30 30, b2sC 30 9, eqC 9]
def wpS : List ConS := [conR newR, conR sendR, conR dblR, conR dlvR, conR losR, conR waitsR, conR cutR, conR countsR, conR (CmpR NilPtr false), conR (CmpR NilPtr true), conR (bsR 1 1), conR convR, conR b2sR, conR (CmpR StrEq false)]
theorem wp_holds : Cons Try.prog wp wpS :=
  ⟨new_holds, send_holds, dbl_holds, dlv_holds, los_holds, waits_holds, cut_holds, counts_holds, (ptr_holds Try.underlying23).1, (ptr_holds Try.underlying23).2,
    bs_ok (b := 1) (z := .int .u8 0) Try.underlying30 (by kernel_rfl) rfl, conv_holds Try.underlying30 Try.underlying5 (by decide), b2s_holds Try.underlying30 Try.underlying5 Try.underlying9 (by decide), (str_holds).1, trivial⟩
def worksR (G : List Ob) (l : List Value) (e : Env) : Prop := l = [] ∧ e.b 0 = true ∧ e.g gv = encG (worksG G)
def worksC : Con := mkCon 10 [] (.bool (.var 0)) 2
theorem lit_bs (G : List Ob) (c : Int) : bsR 1 1 G [.int .u8 c] ((Env.ofL [tok G.length]).ans (encG (litG G c))) :=
  ⟨false, [.int .u8 c], rfl, rfl, fun v hv => by
    have : v = .int .u8 c := by simpa using hv
    subst this
    exact ⟨rfl, fun d hd => (by
      have : d = .int .u8 c := by simpa [Value.cells] using hd
      subst this; rfl), fun cs e => (by cases e)⟩, rfl, rfl⟩
theorem lit_conv (G : List Ob) (c : Int) : convR (litG G c) [tok G.length] ((Env.ofL [tok G.length]).ans (encG (litG G c))) := ⟨_, 1, _, rfl, lit_get G c, Nat.one_pos, rfl, rfl⟩
theorem lt_of {l : Lt} {f t : Int} {bs : List Int} (h : l.data = ⟨f, t, bs⟩) : ∃ v, l = ⟨f, t, v, bs⟩ := by
  cases l with
  | mk f' t' v b' =>
    unfold Lt.data at h
    injection h with a b c
    dsimp only at a b c
    subst a b c
    exact ⟨v, rfl⟩
theorem w2 : wD2 = ⟨3, [⟨1, 2, [97]⟩], fun _ => false, 1, 0, 0, 0⟩ := by
  unfold wD2
  rfl
theorem w3 : wD3 = ⟨3, [⟨1, 2, [97]⟩, ⟨1, 3, [98]⟩], fun _ => false, 2, 0, 0, 0⟩ := by
  unfold wD3
  rw [w2]
  rfl
theorem w4 : wD4 = ⟨3, [⟨1, 2, [97]⟩, ⟨1, 3, [98]⟩, ⟨1, 2, [97]⟩], fun _ => false, 2, 1, 0, 0⟩ := by
  unfold wD4
  rw [w3]
  rfl
theorem w5 : wD5 = ⟨3, [⟨1, 2, [97]⟩, ⟨1, 3, [98]⟩], fun _ => false, 2, 1, 1, 0⟩ := by
  unfold wD5
  rw [w4]
  rfl
theorem w6 : wD6 = ⟨3, [⟨1, 3, [98]⟩], fun _ => false, 2, 1, 1, 1⟩ := by
  unfold wD6
  rw [w5]
  rfl
theorem w7 : wD7 = ⟨3, [⟨1, 3, [98]⟩], fun p => if p = way 3 1 then true else false, 2, 1, 1, 1⟩ := by
  unfold wD7
  rw [w6]
  rfl
theorem w8 : wD8 = ⟨3, [⟨1, 3, [98]⟩], fun p => if p = way 3 1 then true else false, 2, 1, 1, 1⟩ := by
  unfold wD8
  rw [w7]
  rfl
theorem w9 : wD9 = ⟨3, [⟨1, 3, [98]⟩], fun p => if p = way 1 3 then false else if p = way 3 1 then true else false, 2, 1, 1, 1⟩ := by
  unfold wD9
  rw [w8]
  rfl
theorem w10 : wD10 = ⟨3, [], fun p => if p = way 1 3 then false else if p = way 3 1 then true else false, 2, 1, 2, 1⟩ := by
  unfold wD10
  rw [w9]
  rfl
theorem f1 (G : List Ob) : tokAt (wX G) 0 = newV G 3 := by unfold newV; rw [if_neg (by decide)]; rfl
theorem f2 (G : List Ob) : true = sendOk (wN1 G) (wLa G) := by rw [sendOk_data, d1]; rfl
theorem f3 (G : List Ob) : true = sendOk (wN2 G) (wLb G) := by rw [sendOk_data, d2]; rfl
theorem f4 (G : List Ob) : true = dblOk (wN3 G) 0 := by rw [dblOk_data, d3]; rfl
theorem f5 (G : List Ob) : ∃ v, dlvL (wG4 G) (wN4 G) 2 = ⟨1, 2, v, [97]⟩ := lt_of (by rw [dlvL_data, d4]; rfl)
theorem f5' (G : List Ob) : true = dlvOk (wN4 G) 2 := by rw [dlvOk_data, d4]; rfl
theorem f6 (G : List Ob) : true = lookB (wN5 G) 0 := by rw [lookB_data, d5]; rfl
theorem len_data (N : NetM) : N.row.length = N.data.row.length := by simp [NetM.data]
theorem f6' (G : List Ob) : (1 : Int) = ((wN6 G).row.length : Nat) := by rw [len_data, d6]; rfl
theorem nodes_data (N : NetM) : N.nodes = N.data.nodes := rfl
theorem f7 (G : List Ob) : true = wayB (wN6 G).nodes 3 1 := by rw [nodes_data, d6]; rfl
theorem f8 (G : List Ob) : false = dlvOk (wN7 G) 0 := by rw [dlvOk_data, d7]; rfl
theorem f8' (G : List Ob) : dlvL (wG7 G) (wN7 G) 0 = ⟨0, 0, .slice none 0 0, []⟩ := by unfold dlvL; rw [← f8]; rfl
theorem f9 (G : List Ob) : true = wayB (wN8 G).nodes 1 3 := by rw [nodes_data, d8]; rfl
theorem f10 (G : List Ob) : ∃ v, dlvL (wG9 G) (wN9 G) 0 = ⟨1, 3, v, [98]⟩ := lt_of (by rw [dlvL_data, d9]; rfl)
theorem f10' (G : List Ob) : true = dlvOk (wN9 G) 0 := by rw [dlvOk_data, d9]; rfl
theorem sent_data (N : NetM) : N.sent = N.data.s := rfl
theorem doubled_data (N : NetM) : N.doubled = N.data.d := rfl
theorem delivered_data (N : NetM) : N.delivered = N.data.v := rfl
theorem lost_data (N : NetM) : N.lost = N.data.l := rfl
theorem f11 (G : List Ob) : (2 : Int) = (wN10 G).sent := by rw [sent_data, d10, w10]
theorem f12 (G : List Ob) : (1 : Int) = (wN10 G).doubled := by rw [doubled_data, d10, w10]
theorem f13 (G : List Ob) : (2 : Int) = (wN10 G).delivered := by rw [delivered_data, d10, w10]
theorem f14 (G : List Ob) : (1 : Int) = (wN10 G).lost := by rw [lost_data, d10, w10]
def treeWorks : Tree :=
 (.call 0 1200 [(.int .i64 (.lit 3)), (.var 199)]
 (.call 8 4200 [(.hnd 1200), (.lit (.pointer none)), (.var 2199)]
 (.split (.var 4200)
 (leafG (.bool (.lit false)) .nil 2199)
 (.call 10 7200 [(.int .u8 (.lit 97)), (.var 2199)]
 (.call 11 8200 [(.hnd 7200), (.var 8199)]
 (.call 1 9200 [(.hnd 1200), (.int .i64 (.lit 1)), (.int .i64 (.lit 2)), (.hnd 8200), (.var 9199)]
 (.split (.var 9200)
 (.call 10 14200 [(.int .u8 (.lit 98)), (.var 10199)]
 (.call 11 15200 [(.hnd 14200), (.var 15199)]
 (.call 1 16200 [(.hnd 1200), (.int .i64 (.lit 1)), (.int .i64 (.lit 3)), (.hnd 15200), (.var 16199)]
 (.split (.var 16200)
 (.call 2 21200 [(.hnd 1200), (.int .i64 (.lit 0)), (.var 17199)]
 (.split (.var 21200)
 (.call 3 25200 [(.hnd 1200), (.int .i64 (.lit 2)), (.var 22199)]
 (.call 4 33200 [(.hnd 1200), (.int .i64 (.lit 0)), (.var 26199)]
 (.call 5 36200 [(.hnd 1200), (.var 34199)]
 (.call 6 39200 [(.hnd 1200), (.int .i64 (.lit 3)), (.int .i64 (.lit 1)), (.bool (.lit true)), (.var 37199)]
 (.call 3 42200 [(.hnd 1200), (.int .i64 (.lit 0)), (.var 40199)]
 (.call 6 50200 [(.hnd 1200), (.int .i64 (.lit 1)), (.int .i64 (.lit 3)), (.bool (.lit false)), (.var 43199)]
 (.call 3 53200 [(.hnd 1200), (.int .i64 (.lit 0)), (.var 51199)]
 (.call 7 61200 [(.hnd 1200), (.var 54199)]
 (.split (.var 25203)
 (.split (.cmp .eql (.var 25200) (.lit 1))
 (.split (.cmp .eql (.var 25201) (.lit 2))
 (.call 12 92200 [(.hnd 25202), (.var 62199)]
 (.call 13 94200 [(.hnd 92200), (.lit (.string ⟨#[97]⟩)), (.var 62199)]
 (.split (.var 94200)
 (.split (.var 33200)
 (.split (.cmp .eql (.var 36200) (.lit 1))
 (.split (.var 39200)
 (.split (.var 42203)
 (leafG (.bool (.lit false)) .nil 62199)
 (.split (.var 50200)
 (.split (.var 53203)
 (.split (.cmp .eql (.var 53200) (.lit 1))
 (.split (.cmp .eql (.var 53201) (.lit 3))
 (.call 12 139200 [(.hnd 53202), (.var 62199)]
 (.call 13 141200 [(.hnd 139200), (.lit (.string ⟨#[98]⟩)), (.var 62199)]
 (.split (.var 141200)
 (.split (.cmp .eql (.var 61200) (.lit 2))
 (.split (.cmp .eql (.var 61201) (.lit 1))
 (.split (.cmp .eql (.var 61202) (.lit 2))
 (leafG (.bool (.cmp .eql (.var 61203) (.lit 1))) .nil 62199)
 (leafG (.bool (.lit false)) .nil 62199))
 (leafG (.bool (.lit false)) .nil 62199))
 (leafG (.bool (.lit false)) .nil 62199))
 (leafG (.bool (.lit false)) .nil 62199))))
 (leafG (.bool (.lit false)) .nil 62199))
 (leafG (.bool (.lit false)) .nil 62199))
 (leafG (.bool (.lit false)) .nil 62199))
 (leafG (.bool (.lit false)) .nil 62199)))
 (leafG (.bool (.lit false)) .nil 62199))
 (leafG (.bool (.lit false)) .nil 62199))
 (leafG (.bool (.lit false)) .nil 62199))
 (leafG (.bool (.lit false)) .nil 62199))))
 (leafG (.bool (.lit false)) .nil 62199))
 (leafG (.bool (.lit false)) .nil 62199))
 (leafG (.bool (.lit false)) .nil 62199))))))))))
 (leafG (.bool (.lit false)) .nil 22199)))
 (leafG (.bool (.lit false)) .nil 17199)))))
 (leafG (.bool (.lit false)) .nil 10199))))))))
theorem works_holds : worksC.holds Try.prog (conR worksR) := by
  refine con_of_runG (cs := wp) (S := wpS) (LT := []) (depth := 1) (fuel := 10) (nv := 200) (av := []) (T := treeWorks) wp_holds (by kernel_rfl) (by kernel_rfl) (by kernel_rfl) ?_
  rintro G l e0 ⟨rfl, q0, hG⟩
  refine ⟨noLoops, (Env.ofL []).st (encG G), rfl, rfl, ?_⟩
  refine sem_step G [.int .i64 3] ((Env.ofL [tokAt (wX G) 0]).ans (encG (wG1 G))) rfl rfl ⟨3, rfl, f1 G, rfl⟩ ?_
  have hlx : wX G < (wG1 G).length := (List.getElem?_eq_some_iff.1 (i1 G).ob).1
  refine sem_step (wG1 G) [tokAt (wX G) 0, .pointer none] (Env.ofL [.bool false]) rfl rfl ⟨_, _, false, rfl, ⟨rfl, rfl, .inr ⟨_, _, rfl, hlx⟩⟩, rfl⟩ ?_
  refine sem_split (fun h => by cases h) (fun _ => ?_)
  refine sem_step (wG1 G) [.int .u8 97] _ rfl rfl (lit_bs _ _) ?_
  refine sem_step (litG (wG1 G) 97) [tok (wG1 G).length] _ rfl rfl (lit_conv _ _) ?_
  refine sem_step (litG (wG1 G) 97) [tokAt (wX G) 0, .int .i64 1, .int .i64 2, tok (wG1 G).length] ((Env.ofL [.bool true]).ans (encG (wG2 G))) rfl rfl ⟨wX G, wN1 G, wLa G, rfl, i1' G, lit_sl _ _, f2 G, rfl⟩ ?_
  refine sem_split (fun _ => ?_) (fun h => by cases h)
  refine sem_step (wG2 G) [.int .u8 98] _ rfl rfl (lit_bs _ _) ?_
  refine sem_step (litG (wG2 G) 98) [tok (wG2 G).length] _ rfl rfl (lit_conv _ _) ?_
  refine sem_step (litG (wG2 G) 98) [tokAt (wX G) 0, .int .i64 1, .int .i64 3, tok (wG2 G).length] ((Env.ofL [.bool true]).ans (encG (wG3 G))) rfl rfl ⟨wX G, wN2 G, wLb G, rfl, i2' G, lit_sl _ _, f3 G, rfl⟩ ?_
  refine sem_split (fun _ => ?_) (fun h => by cases h)
  refine sem_step (wG3 G) [tokAt (wX G) 0, .int .i64 0] ((Env.ofL [.bool true]).ans (encG (wG4 G))) rfl rfl ⟨wX G, wN3 G, 0, rfl, i3 G, f4 G, rfl⟩ ?_
  refine sem_split (fun _ => ?_) (fun h => by cases h)
  obtain ⟨v1, hv1⟩ := f5 G
  have b1 : Dst (wG5 G) v1 1 1 [.int .u8 97] := by have := dlv_dst (i4 G) 2; rw [hv1] at this; exact this
  refine sem_step (wG4 G) [tokAt (wX G) 0, .int .i64 2] ((Env.ofL [.int .i64 1, .int .i64 2, v1, .bool true]).ans (encG (wG5 G))) rfl rfl ⟨wX G, wN4 G, 2, rfl, i4 G, by rw [hv1]; rfl, by rw [hv1]; rfl, by rw [hv1]; rfl, f5' G, rfl⟩ ?_
  refine sem_step (wG5 G) [tokAt (wX G) 0, .int .i64 0] ((Env.ofL [.bool true]).ans (encG (wG6 G))) rfl rfl ⟨wX G, wN5 G, 0, rfl, (s5 G).is_, f6 G, rfl⟩ ?_
  refine sem_step (wG6 G) [tokAt (wX G) 0] ((Env.ofL [.int .i64 1]).ans (encG (wG6 G))) rfl rfl ⟨wX G, wN6 G, rfl, (s6 G).is_, f6' G, rfl⟩ ?_
  refine sem_step (wG6 G) [tokAt (wX G) 0, .int .i64 3, .int .i64 1, .bool true] ((Env.ofL [.bool true]).ans (encG (wG7 G))) rfl rfl ⟨wX G, wN6 G, 3, 1, true, rfl, (s6 G).is_, f7 G, rfl⟩ ?_
  refine sem_step (wG7 G) [tokAt (wX G) 0, .int .i64 0] ((Env.ofL [.int .i64 0, .int .i64 0, .slice none 0 0, .bool false]).ans (encG (wG8 G))) rfl rfl ⟨wX G, wN7 G, 0, rfl, (s7 G).is_, by rw [f8']; rfl, by rw [f8']; rfl, by rw [f8']; rfl, f8 G, rfl⟩ ?_
  refine sem_step (wG8 G) [tokAt (wX G) 0, .int .i64 1, .int .i64 3, .bool false] ((Env.ofL [.bool true]).ans (encG (wG9 G))) rfl rfl ⟨wX G, wN8 G, 1, 3, false, rfl, (s8 G).is_, f9 G, rfl⟩ ?_
  obtain ⟨v2, hv2⟩ := f10 G
  have b2 : Dst (worksG G) v2 1 1 [.int .u8 98] := by have := dlv_dst (s9 G).is_ 0; rw [hv2] at this; exact this
  have b1' : Dst (worksG G) v1 1 1 [.int .u8 97] := (s6_10 G).dst (s5 G).is_ b1
  refine sem_step (wG9 G) [tokAt (wX G) 0, .int .i64 0] ((Env.ofL [.int .i64 1, .int .i64 3, v2, .bool true]).ans (encG (worksG G))) rfl rfl ⟨wX G, wN9 G, 0, rfl, (s9 G).is_, by rw [hv2]; rfl, by rw [hv2]; rfl, by rw [hv2]; rfl, f10' G, rfl⟩ ?_
  refine sem_step (worksG G) [tokAt (wX G) 0] ((Env.ofL [.int .i64 2, .int .i64 1, .int .i64 2, .int .i64 1]).ans (encG (worksG G))) rfl rfl ⟨wX G, wN10 G, rfl, (s10 G).is_, f11 G, f12 G, f13 G, f14 G, rfl⟩ ?_
  refine sem_split (fun _ => ?_) (fun h => by cases h)
  refine sem_split (fun _ => ?_) (fun h => by cases h)
  refine sem_split (fun _ => ?_) (fun h => by cases h)
  refine sem_step (worksG G) [v1] (Env.ofL [.string (strOf [97])]) rfl (by show [oneOf v1, _] = _; rw [oneOf_eq (dst_sl b1 rfl).one]; rfl) ⟨v1, [97], rfl, dst_sl b1' rfl, rfl⟩ ?_
  refine sem_step (worksG G) [.string (strOf [97]), .string { data := #[97] }] (Env.ofL [.bool true]) rfl rfl ⟨_, _, true, rfl, ⟨_, _, rfl, rfl, ?_⟩, rfl⟩ ?_
  · exact (beq_self_eq_true (strOf [97]).toList).symm
  refine sem_split (fun _ => ?_) (fun h => by cases h)
  refine sem_split (fun _ => ?_) (fun h => by cases h)
  refine sem_split (fun _ => ?_) (fun h => by cases h)
  refine sem_split (fun _ => ?_) (fun h => by cases h)
  refine sem_split (fun h => by cases h) (fun _ => ?_)
  refine sem_split (fun _ => ?_) (fun h => by cases h)
  refine sem_split (fun _ => ?_) (fun h => by cases h)
  refine sem_split (fun _ => ?_) (fun h => by cases h)
  refine sem_split (fun _ => ?_) (fun h => by cases h)
  refine sem_step (worksG G) [v2] (Env.ofL [.string (strOf [98])]) rfl (by show [oneOf v2, _] = _; rw [oneOf_eq (dst_sl b2 rfl).one]; rfl) ⟨v2, [98], rfl, dst_sl b2 rfl, rfl⟩ ?_
  refine sem_step (worksG G) [.string (strOf [98]), .string { data := #[98] }] (Env.ofL [.bool true]) rfl rfl ⟨_, _, true, rfl, ⟨_, _, rfl, rfl, ?_⟩, rfl⟩ ?_
  · exact (beq_self_eq_true (strOf [98]).toList).symm
  refine sem_split (fun _ => ?_) (fun h => by cases h)
  refine sem_split (fun _ => ?_) (fun h => by cases h)
  refine sem_split (fun _ => ?_) (fun h => by cases h)
  refine sem_split (fun _ => ?_) (fun h => by cases h)
  exact sem_retG rfl (by show _ = Value.bool (e0.b 0); rw [q0]; rfl) trivial (by rw [hG]; rfl)
end Go.Proofs.Yteklnfajpignoaa
