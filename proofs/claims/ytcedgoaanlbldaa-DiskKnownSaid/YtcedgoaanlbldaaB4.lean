/- What is proved: a disk behind a Sync; the contract of the law's works; plain laws on a disk that is armed; what the law's works leaves. No condition but those each law names. -/
import Derived.Test.YtcedgoaanlbldaaB2
namespace Go.Proofs.Ytcedgoaanlbldaa
open Sx
set_option maxRecDepth 100000

theorem sy_step {G : List Ob} {d : Nat} {M : DiskM} (h : IsDisk G d M) : DStep d M G (syM M G.length) (syG G d M) := by
  have h1 := DStep.of_keeps h (Keeps.append G (M.lo.map fun p => Ob.ptr (u8s p.2))) (by simp)
  have h2 := h1.trans (h1.is_.put (M' := { M with done := inc M.done }) rfl rfl rfl rfl h.rng)
  have h3 := h2.trans (h2.is_.putLa (syLa M.la M.lo G.length) fun k q hq => by
    have nx : ∀ (n : Nat) bs, (G ++ M.lo.map fun p => Ob.ptr (u8s p.2))[n]? = some (.ptr (u8s bs)) → bs.length = 128 → ((G ++ M.lo.map fun p => Ob.ptr (u8s p.2)).set d (.ptr ({ M with done := inc M.done } : DiskM).cells))[n]? = some (.ptr (u8s bs)) := fun n bs hn hl => by
      rw [List.getElem?_set_ne (Ne.symm (h1.is_.ned hn (sec_ne hl)))]
      exact hn
    rcases syLa_mem hq with hq | ⟨j, p, hj, e⟩
    · have := h1.is_.la k q hq
      exact ⟨nx _ _ this.1 this.2, this.2⟩
    · injection e with e1 e2
      injection e2 with e2
      subst e2
      have hl := (h.lo p (List.mem_of_getElem? hj)).1
      refine ⟨nx _ _ ?_ hl, hl⟩
      show (G ++ _)[G.length + j]? = _
      rw [List.getElem?_append_right (by omega), Nat.add_sub_cancel_left, List.getElem?_map, hj]
      rfl)
  exact h3.trans (h3.is_.putLo [] (fun p hp => by cases hp) List.nodup_nil)
theorem syc_step {G : List Ob} {d : Nat} {M : DiskM} (h : IsDisk G d M) : DStep d M G (sycM M G.length) (sycG G d M) := by
  unfold sycM sycG
  split
  · exact DStep.refl h
  split
  · exact str_step h
  · have h1 := str_step h
    have h2 := sy_step h1.is_
    rw [strG_len] at h2
    have := h1.trans h2
    exact this
/-- A disk whose power is on, and that isn't armed. -/
def Ma (n : Nat) (la : List (Int × Option (Nat × List Int))) (lo : List (Int × List Int)) (done : Int) : DiskM := ⟨la, lo, false, -1, done, n, n + 1⟩
section
variable (G : List Ob)
def wD : Nat := G.length + 2
def w2 : List Ob := litG (newG G) 7
def w3 : List Ob := wrG (w2 G) (wD G) (Ma G.length [] [] 0) 3 [7]
def wM1 : DiskM := Ma G.length [] [(3, pad [7])] 1
def w4 : List Ob := sycG (w3 G) (wD G) (wM1 G)
def wL : List (Int × Option (Nat × List Int)) := [(3, some ((w3 G).length, pad [7]))]
def wM2 : DiskM := Ma G.length (wL G) [] 2
def w5 : List Ob := litG (w4 G) 8
def w6 : List Ob := wrG (w5 G) (wD G) (wM2 G) 3 [8]
def wM3 : DiskM := Ma G.length (wL G) [(3, pad [8])] 3
def w7 : List Ob := litG (w6 G) 9
def w8 : List Ob := wrG (w7 G) (wD G) (wM3 G) 4 [9]
def wM4 : DiskM := Ma G.length (wL G) [(3, pad [8]), (4, pad [9])] 4
def w9 : List Ob := litG (w8 G) 8
def w10 : List Ob := rdsG (w9 G) (wM4 G) 3 [8]
def w11 : List Ob := w10 G ++ [.ro 1 2 [.int .i64 0, .int .i64 2]]
def w12 : List Ob := (crash (w11 G) (wD G) (wM4 G) [0, 2]).1
def wM5 : DiskM := Ma G.length (wL G ++ [(4, none)]) [] 4
def w13 : List Ob := rdG (w12 G) (wM5 G) 4
def w14 : List Ob := litG (w13 G) 7
def w15 : List Ob := rdsG (w14 G) (wM5 G) 3 [7]
def w16 : List Ob := wrG (w15 G) (wD G) (wM5 G) 512 []
theorem wk_keys (a b : List Int) : keyL [(3, a), (4, b)] = [3, 4] := by
  unfold keyL
  exact List.mergeSort_of_pairwise (by simp [leI'])
theorem wk_crash : (crash (w11 G) (wD G) (wM4 G) [0, 2]).2 = wM5 G := by
  unfold crash
  rw [show keyL (wM4 G).lo = [3, 4] from wk_keys _ _]
  rfl
theorem wi1 : IsDisk (newG G) (wD G) (Ma G.length [] [] 0) := new_is G
theorem wi2 : IsDisk (w2 G) (wD G) (Ma G.length [] [] 0) := (wi1 G).keeps (Keeps.append _ _)
theorem wi3 : IsDisk (w3 G) (wD G) (wM1 G) := (wr_step (wi2 G) 3 [7]).is_
theorem wi4 : IsDisk (w4 G) (wD G) (wM2 G) := (syc_step (wi3 G)).is_
theorem wi5 : IsDisk (w5 G) (wD G) (wM2 G) := (wi4 G).keeps (Keeps.append _ _)
theorem wi6 : IsDisk (w6 G) (wD G) (wM3 G) := (wr_step (wi5 G) 3 [8]).is_
theorem wi7 : IsDisk (w7 G) (wD G) (wM3 G) := (wi6 G).keeps (Keeps.append _ _)
theorem wi8 : IsDisk (w8 G) (wD G) (wM4 G) := (wr_step (wi7 G) 4 [9]).is_
theorem wi9 : IsDisk (w9 G) (wD G) (wM4 G) := (wi8 G).keeps (Keeps.append _ _)
theorem wi10 : IsDisk (w10 G) (wD G) (wM4 G) := (wi9 G).keeps (rds_keeps (wi9 G) 3 [8]).1
theorem wi11 : IsDisk (w11 G) (wD G) (wM4 G) := (wi10 G).keeps (Keeps.append _ _)
theorem wi12 : IsDisk (w12 G) (wD G) (wM5 G) := by
  have := (cra_step (wi11 G) [0, 2]).is_
  rw [wk_crash] at this
  exact this
theorem wi13 : IsDisk (w13 G) (wD G) (wM5 G) := (wi12 G).keeps (rd_keeps (wi12 G) 4)
theorem wi14 : IsDisk (w14 G) (wD G) (wM5 G) := (wi13 G).keeps (Keeps.append _ _)
theorem wi15 : IsDisk (w15 G) (wD G) (wM5 G) := (wi14 G).keeps (rds_keeps (wi14 G) 3 [7]).1
theorem wi16 : IsDisk (w16 G) (wD G) (wM5 G) := (wr_step (wi15 G) 512 []).is_
end
def worR (G : List Ob) (l : List Value) (e : Env) : Prop := l = [] ∧ e.b 0 = true ∧ e.g gv = encG (w16 G)
def worC : Con := mkCon 8 [] (.bool (.var 0)) 2
def wop : List Con := [newC, wrC, sycC, rdsC, craC, rdC, countC, bsC 27 1, bsC 23 2]
def wopS : List ConS := [conR newR, conR wrR, conR sycR, conR rdsR, conR craR, conR rdR, conR countR, conR (bsR 1 1), conR (bsR 1 2)]
theorem wop_holds : Cons Try.prog wop wopS :=
  ⟨new_holds, wr_holds, sync_holds, rds_holds, cra_holds, rd_holds, count_holds, bs_ok (b := 1) (z := .int .u8 0) Try.underlying27 (by kernel_rfl) rfl, bs_ok (b := 8) (z := .int .i64 0) Try.underlying23 (by kernel_rfl) rfl, trivial⟩
/-- A literal of two numbers that is only read. -/
theorem lit2_bs (G : List Ob) (a b : Int) : bsR 1 2 G [.int .i64 a, .int .i64 b] ((Env.ofL [tok G.length]).ans (encG (G ++ [.ro 1 2 [.int .i64 a, .int .i64 b]]))) :=
  ⟨true, [.int .i64 a, .int .i64 b], rfl, rfl, fun v hv => by
    have : v = .int .i64 a ∨ v = .int .i64 b := by simpa using hv
    rcases this with rfl | rfl
    · exact ⟨rfl, fun c hc => (by
        have : c = .int .i64 a := by simpa [Value.cells] using hc
        subst this; rfl), fun cs e => (by cases e)⟩
    · exact ⟨rfl, fun c hc => (by
        have : c = .int .i64 b := by simpa [Value.cells] using hc
        subst this; rfl), fun cs e => (by cases e)⟩, rfl, rfl⟩
theorem wk_keep (G : List Ob) : SlD (wD G) (wM4 G) (w11 G) (tok (w10 G).length) 1 [(0 : Int), 2].length ([(0 : Int), 2].map (Value.int .i64)) := fun G' hf => by
  have h := wi10 G
  have h0 := (List.getElem?_eq_some_iff.1 h.ob).1
  have h1 := (List.getElem?_eq_some_iff.1 h.ma).1
  have h2 := (List.getElem?_eq_some_iff.1 h.mo).1
  have hg := hf.2 (w10 G).length (.ro 1 2 [.int .i64 0, .int .i64 2]) (by unfold w11; rw [List.getElem?_append_right (Nat.le_refl _), Nat.sub_self]; rfl) (by omega) (by omega) (by omega)
  exact .inr ⟨_, 0, _, ⟨_, rfl, .inl ⟨_, .inr hg, rfl, rfl⟩⟩, by unfold cellsAt; rw [hg]; rfl, by simp, by simp⟩
def treeWorks : Tree :=
 (.call 0 1200 [(.var 199)]
 (.call 7 4200 [(.int .u8 (.lit 7)), (.var 2199)]
 (.call 1 5200 [(.pla (.var 1200) (.lit 0) 0), (.int .i64 (.lit 3)), (.hnd 4200), (.var 5199)]
 (.call 2 8200 [(.pla (.var 1200) (.lit 0) 0), (.var 6199)]
 (.call 7 11200 [(.int .u8 (.lit 8)), (.var 9199)]
 (.call 1 12200 [(.pla (.var 1200) (.lit 0) 0), (.int .i64 (.lit 3)), (.hnd 11200), (.var 12199)]
 (.call 7 14200 [(.int .u8 (.lit 9)), (.var 13199)]
 (.call 1 15200 [(.pla (.var 1200) (.lit 0) 0), (.int .i64 (.lit 4)), (.hnd 14200), (.var 15199)]
 (.call 7 17200 [(.int .u8 (.lit 8)), (.var 16199)]
 (.call 3 18200 [(.pla (.var 1200) (.lit 0) 0), (.int .i64 (.lit 3)), (.hnd 17200), (.var 18199)]
 (.call 8 21200 [(.int .i64 (.lit 0)), (.int .i64 (.lit 2)), (.var 19199)]
 (.call 4 22200 [(.pla (.var 1200) (.lit 0) 0), (.hnd 21200), (.var 22199)]
 (.call 5 24200 [(.pla (.var 1200) (.lit 0) 0), (.int .i64 (.lit 4)), (.var 23199)]
 (.split (.cmp .eql (.var 5200) (.lit 0))
 (.split (.cmp .eql (.var 8200) (.lit 0))
 (.split (.var 18200)
 (.call 7 41200 [(.int .u8 (.lit 7)), (.var 25199)]
 (.call 3 42200 [(.pla (.var 1200) (.lit 0) 0), (.int .i64 (.lit 3)), (.hnd 41200), (.var 42199)]
 (.split (.var 42200)
 (.split (.cmp .eql (.var 24201) (.lit 24))
 (.call 1 50200 [(.pla (.var 1200) (.lit 0) 0), (.int .i64 (.lit 512)), (.lit (.slice none 0 0)), (.var 43199)]
 (.split (.cmp .eql (.var 50200) (.lit 1))
 (.call 6 55200 [(.pla (.var 1200) (.lit 0) 0), (.var 51199)]
 (leafG (.bool (.cmp .eql (.var 55200) (.lit 4))) .nil 56199))
 (leafG (.bool (.lit false)) .nil 51199)))
 (leafG (.bool (.lit false)) .nil 43199))
 (leafG (.bool (.lit false)) .nil 43199))))
 (leafG (.bool (.lit false)) .nil 25199))
 (leafG (.bool (.lit false)) .nil 25199))
 (leafG (.bool (.lit false)) .nil 25199)))))))))))))))
theorem wor_holds : worC.holds Try.prog (conR worR) := by
  refine con_of_runG (cs := wop) (S := wopS) (LT := []) (depth := 1) (fuel := 20) (nv := 200) (av := []) (T := treeWorks) wop_holds (by kernel_rfl) (by kernel_rfl) (by kernel_rfl) ?_
  rintro G l e0 ⟨rfl, he, hG⟩
  refine ⟨noLoops, (Env.ofL []).st (encG G), rfl, rfl, ?_⟩
  refine sem_step G [] ((Env.ofL [.int .i64 (wD G)]).ans (encG (newG G))) rfl rfl ⟨rfl, rfl, rfl⟩ ?_
  refine sem_step (newG G) [.int .u8 7] _ rfl rfl (lit_bs _ _) ?_
  refine sem_step (w2 G) [tokAt (wD G) 0, .int .i64 3, tok (newG G).length] ((Env.ofL [.int .i64 0]).ans (encG (w3 G))) rfl rfl ⟨_, _, _, _, [7], rfl, wi2 G, lit_sl _ _, rfl, rfl⟩ ?_
  refine sem_step (w3 G) [tokAt (wD G) 0] ((Env.ofL [.int .i64 0]).ans (encG (w4 G))) rfl rfl ⟨_, _, rfl, wi3 G, rfl, rfl⟩ ?_
  refine sem_step (w4 G) [.int .u8 8] _ rfl rfl (lit_bs _ _) ?_
  refine sem_step (w5 G) [tokAt (wD G) 0, .int .i64 3, tok (w4 G).length] ((Env.ofL [.int .i64 0]).ans (encG (w6 G))) rfl rfl ⟨_, _, _, _, [8], rfl, wi5 G, lit_sl _ _, rfl, rfl⟩ ?_
  refine sem_step (w6 G) [.int .u8 9] _ rfl rfl (lit_bs _ _) ?_
  refine sem_step (w7 G) [tokAt (wD G) 0, .int .i64 4, tok (w6 G).length] ((Env.ofL [.int .i64 0]).ans (encG (w8 G))) rfl rfl ⟨_, _, _, _, [9], rfl, wi7 G, lit_sl _ _, rfl, rfl⟩ ?_
  refine sem_step (w8 G) [.int .u8 8] _ rfl rfl (lit_bs _ _) ?_
  refine sem_step (w9 G) [tokAt (wD G) 0, .int .i64 3, tok (w8 G).length] ((Env.ofL [.bool true]).ans (encG (w10 G))) rfl rfl ⟨_, _, _, _, [8], rfl, wi9 G, lit_sl _ _, by decide, ?_, rfl⟩ ?_
  · show true = rdsB (wM4 G) 3 [8]
    rfl
  refine sem_step (w10 G) [.int .i64 0, .int .i64 2] _ rfl rfl (lit2_bs _ _ _) ?_
  refine sem_step (w11 G) [tokAt (wD G) 0, tok (w10 G).length] ((Env.ofL []).ans (encG (w12 G))) rfl rfl ⟨_, _, _, [0, 2], rfl, wi11 G, wk_keep G, rfl⟩ ?_
  refine sem_step (w12 G) [tokAt (wD G) 0, .int .i64 4] ((Env.ofL [rdV (w12 G) (wM5 G) 4, .int .i64 24]).ans (encG (w13 G))) rfl rfl ⟨_, _, _, rfl, wi12 G, rfl, rfl, rfl⟩ ?_
  refine sem_split (fun _ => ?_) (fun h => by cases h)
  refine sem_split (fun _ => ?_) (fun h => by cases h)
  refine sem_split (fun _ => ?_) (fun h => by cases h)
  refine sem_step (w13 G) [.int .u8 7] _ rfl rfl (lit_bs _ _) ?_
  refine sem_step (w14 G) [tokAt (wD G) 0, .int .i64 3, tok (w13 G).length] ((Env.ofL [.bool true]).ans (encG (w15 G))) rfl rfl ⟨_, _, _, _, [7], rfl, wi14 G, lit_sl _ _, by decide, ?_, rfl⟩ ?_
  · show true = rdsB (wM5 G) 3 [7]
    rfl
  refine sem_split (fun _ => ?_) (fun h => by cases h)
  refine sem_split (fun _ => ?_) (fun h => by cases h)
  refine sem_step (w15 G) [tokAt (wD G) 0, .int .i64 512, .slice none 0 0] ((Env.ofL [.int .i64 1]).ans (encG (w16 G))) rfl rfl ⟨_, _, _, _, [], rfl, wi15 G, .inl ⟨rfl, rfl, rfl⟩, rfl, rfl⟩ ?_
  refine sem_split (fun _ => ?_) (fun h => by cases h)
  refine sem_step (w16 G) [tokAt (wD G) 0] ((Env.ofL [.int .i64 4]).ans (encG (w16 G))) rfl rfl ⟨_, _, rfl, wi16 G, rfl, rfl⟩ ?_
  exact sem_retG rfl (by show Value.bool (decide ((4 : Int) = 4)) = Value.bool (e0.b 0); rw [he]; rfl) trivial (by rw [hG]; rfl)
end Go.Proofs.Ytcedgoaanlbldaa

namespace Go.Proofs.Ytcedgoaanlbldaa
open Sx
set_option maxRecDepth 100000

theorem wst (G : List Ob) : DStep (wD G) (Ma G.length [] [] 0) (newG G) (wM5 G) (w16 G) := by
  have ln : ∀ (A : List Ob) (c : Int), A.length ≤ (litG A c).length := fun A c => by simp [litG]
  have s2 : DStep (wD G) (Ma G.length [] [] 0) (newG G) (Ma G.length [] [] 0) (w2 G) := DStep.of_keeps (wi1 G) (Keeps.append _ _) (ln _ _)
  have s3 : DStep (wD G) (Ma G.length [] [] 0) (newG G) (wM1 G) (w3 G) := s2.trans (wr_step (wi2 G) 3 [7])
  have s4 : DStep (wD G) (Ma G.length [] [] 0) (newG G) (wM2 G) (w4 G) := s3.trans (syc_step (wi3 G))
  have s5 : DStep (wD G) (Ma G.length [] [] 0) (newG G) (wM2 G) (w5 G) := s4.trans (DStep.of_keeps (wi4 G) (Keeps.append _ _) (ln _ _))
  have s6 : DStep (wD G) (Ma G.length [] [] 0) (newG G) (wM3 G) (w6 G) := s5.trans (wr_step (wi5 G) 3 [8])
  have s7 : DStep (wD G) (Ma G.length [] [] 0) (newG G) (wM3 G) (w7 G) := s6.trans (DStep.of_keeps (wi6 G) (Keeps.append _ _) (ln _ _))
  have s8 : DStep (wD G) (Ma G.length [] [] 0) (newG G) (wM4 G) (w8 G) := s7.trans (wr_step (wi7 G) 4 [9])
  have s9 : DStep (wD G) (Ma G.length [] [] 0) (newG G) (wM4 G) (w9 G) := s8.trans (DStep.of_keeps (wi8 G) (Keeps.append _ _) (ln _ _))
  have s10 : DStep (wD G) (Ma G.length [] [] 0) (newG G) (wM4 G) (w10 G) := s9.trans (DStep.of_keeps (wi9 G) (rds_keeps (wi9 G) 3 [8]).1 (rds_keeps (wi9 G) 3 [8]).2)
  have s11 : DStep (wD G) (Ma G.length [] [] 0) (newG G) (wM4 G) (w11 G) := s10.trans (DStep.of_keeps (wi10 G) (Keeps.append _ _) (by simp [w11]))
  have c := cra_step (wi11 G) [0, 2]
  rw [wk_crash] at c
  have s12 : DStep (wD G) (Ma G.length [] [] 0) (newG G) (wM5 G) (w12 G) := s11.trans c
  have s13 : DStep (wD G) (Ma G.length [] [] 0) (newG G) (wM5 G) (w13 G) := s12.trans (DStep.of_keeps (wi12 G) (rd_keeps (wi12 G) 4) (rd_len (wi12 G) 4))
  have s14 : DStep (wD G) (Ma G.length [] [] 0) (newG G) (wM5 G) (w14 G) := s13.trans (DStep.of_keeps (wi13 G) (Keeps.append _ _) (ln _ _))
  have s15 : DStep (wD G) (Ma G.length [] [] 0) (newG G) (wM5 G) (w15 G) := s14.trans (DStep.of_keeps (wi14 G) (rds_keeps (wi14 G) 3 [7]).1 (rds_keeps (wi14 G) 3 [7]).2)
  exact s15.trans (wr_step (wi15 G) 512 [])
/-- What is there ahead of a new disk stays. -/
theorem new_fr {G G' : List Ob} (h : FrD (G.length + 2) (newM G.length) (newG G) G') : Keeps G G' := fun n o ho => by
  have hl := (List.getElem?_eq_some_iff.1 ho).1
  exact h.2 n o (new_keeps G n o ho) (by omega) (by show n ≠ G.length; omega) (by show n ≠ G.length + 1; omega)
theorem wor_keeps (G : List Ob) : Keeps G (w16 G) := new_fr (wst G).fr
/-- A disk that is armed with n, i operations on. -/
def SS (n i : Nat) (M : DiskM) : Prop := if i ≤ n then M.off = false ∧ M.left = (n : Int) - i ∧ M.done = i else M.off = true ∧ M.left = -1 ∧ M.done = (if n % 3 = 2 then (n : Int) else n + 1)
theorem inc_at {k : Nat} (h : k < 1000) : inc (k : Int) = (k + 1 : Nat) := by
  unfold inc
  rw [wrap_in (by omega) (by omega)]
  simp
theorem str_ss {n i : Nat} {M : DiskM} (h2 : M.left = (n : Int) - i) (hi : i ≤ n) : strB M = decide (i = n) ∧ strM M = { M with left := (n : Int) - i - 1, off := decide (i = n) } := by
  have h0 : ¬ M.left < 0 := by omega
  have h1 : decide (M.left - 1 < 0) = decide (i = n) := decide_eq_decide.2 (by omega)
  unfold strB strM
  rw [if_neg h0, decide_eq_false h0, h1, h2]
  exact ⟨rfl, rfl⟩
theorem syc_ss {n i : Nat} {M : DiskM} (h : SS n i M) (hi : i < 500) (hm : i % 3 = 2) (k : Nat) :
    sycE M = (if i < n then 0 else 9) ∧ (sycM M k).off = decide (n ≤ i) ∧ SS n (i + 1) (sycM M k) := by
  unfold SS at h
  unfold sycE sycM
  by_cases hin : i ≤ n
  · rw [if_pos hin] at h
    obtain ⟨h1, h2, h3⟩ := h
    obtain ⟨s1, s2⟩ := str_ss h2 hin
    simp only [h1, Bool.false_eq_true, if_false, s1, s2, decide_eq_true_eq]
    by_cases e : i = n
    · subst e
      simp only [if_true, Nat.lt_irrefl, if_false]
      refine ⟨trivial, by simp, ?_⟩
      unfold SS
      rw [if_neg (by omega), if_pos hm]
      exact ⟨by simp, by show (i : Int) - i - 1 = -1; omega, h3⟩
    · have hl : i < n := by omega
      simp only [e, if_false, hl, if_true]
      refine ⟨trivial, ?_, ?_⟩
      · have : ¬ n ≤ i := by omega
        simp [syM, this]
      unfold SS
      rw [if_pos (by omega)]
      exact ⟨by simp [syM], by show (n : Int) - i - 1 = n - (i + 1 : Nat); omega, by show inc M.done = _; rw [h3, inc_at (by omega)]⟩
  · rw [if_neg hin] at h
    obtain ⟨h1, h2, h3⟩ := h
    rw [if_pos h1, if_pos h1, if_neg (by omega)]
    refine ⟨rfl, by rw [h1, decide_eq_true (by omega)], ?_⟩
    unfold SS
    rw [if_neg (by omega)]
    exact ⟨h1, h2, h3⟩
theorem wr_ss {n i : Nat} {M : DiskM} (h : SS n i M) (hi : i < 500) (hm : i % 3 ≠ 2) {a : Int} (ha : 0 ≤ a ∧ a < 20) {bs : List Int} (hb : bs.length ≤ 128) :
    wrE M a bs = (if i < n then 0 else 9) ∧ (wrM M a bs).off = decide (n ≤ i) ∧ SS n (i + 1) (wrM M a bs) ∧ (i ≤ n → rdsB (wrM M a bs) a bs = true) := by
  have hbad : wrBad a bs.length = false := by
    unfold wrBad
    rw [decide_eq_false (by omega), decide_eq_false (by omega), decide_eq_false (by omega)]
    rfl
  unfold SS at h
  unfold wrE wrM
  rw [hbad]
  by_cases hin : i ≤ n
  · rw [if_pos hin] at h
    obtain ⟨h1, h2, h3⟩ := h
    obtain ⟨s1, s2⟩ := str_ss (M := wrM1 M a bs) h2 hin
    simp only [h1, Bool.false_eq_true, if_false, s1, s2, decide_eq_true_eq]
    have hrd : rdsB { wrM1 M a bs with left := (n : Int) - i - 1, off := decide (i = n) } a bs = true := by
      have hg : getA (putA M.lo a (pad bs)) a = some (pad bs) := by rw [getA_put, if_pos rfl]
      have hbd : rdBad a = false := by
        unfold rdBad
        rw [decide_eq_false (by omega), decide_eq_false (by omega)]
        rfl
      unfold rdsB rdE rdBs
      rw [hbd]
      simp [wrM1, hg]
    refine ⟨?_, ?_, ?_, fun _ => hrd⟩
    · by_cases e : i = n
      · subst e
        simp
      · rw [if_neg e, if_pos (by omega)]
    · show decide (i = n) = decide (n ≤ i)
      exact decide_eq_decide.2 (by omega)
    · unfold SS
      by_cases e : i = n
      · subst e
        rw [if_neg (by omega), if_neg hm]
        exact ⟨by simp, by show (i : Int) - i - 1 = -1; omega, by show inc M.done = _; rw [h3, inc_at (by omega)]; simp⟩
      · rw [if_pos (by omega)]
        exact ⟨by simpa using e, by show (n : Int) - i - 1 = n - (i + 1 : Nat); omega, by show inc M.done = _; rw [h3, inc_at (by omega)]⟩
  · rw [if_neg hin] at h
    obtain ⟨h1, h2, h3⟩ := h
    rw [if_pos h1, if_pos h1, if_neg (by omega)]
    refine ⟨rfl, by rw [h1, decide_eq_true (by omega)], ?_, fun h => absurd h hin⟩
    unfold SS
    rw [if_neg (by omega)]
    exact ⟨h1, h2, h3⟩
end Go.Proofs.Ytcedgoaanlbldaa
