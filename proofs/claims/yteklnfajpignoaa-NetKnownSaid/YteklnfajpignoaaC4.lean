/- What is proved: NetKnown answers true. No condition. -/
import Derived.Test.YteklnfajpignoaaC3
namespace Go.Proofs.Yteklnfajpignoaa
open Sx
set_option maxRecDepth 100000

theorem way_data (N : NetM) : N.nodes = N.data.nodes := rfl
theorem send_no {G : List Ob} {x : Nat} {N : NetM} {l : Lt} (h : sendOk N l = false) : sendG G x N l = G := by unfold sendG; rw [if_neg (by simp [h])]
theorem cut_no {G : List Ob} {N : NetM} {a b : Int} {c : Bool} (h : wayB N.nodes a b = false) : cutG G N a b c = G := by unfold cutG; rw [if_neg (by simp [h])]
theorem look_no {G : List Ob} {N : NetM} {k : Int} (h : lookB N k = false) : lookG G N k = G := by unfold lookG; rw [if_neg (by simp [h])]
theorem dblOk_no {N : NetM} {k : Int} (h : lookB N k = false) : dblOk N k = false := by unfold dblOk; rw [h]; rfl
theorem dbl_no {G : List Ob} {x : Nat} {N : NetM} {k : Int} (h : lookB N k = false) : dblG G x N k = G := by unfold dblG; rw [if_neg (by simp [dblOk_no h]), look_no h]
theorem los_no {G : List Ob} {x : Nat} {N : NetM} {k : Int} (h : lookB N k = false) : losG G x N k = G := by unfold losG; rw [if_neg (by simp [h]), look_no h]
theorem dlvOk_no {N : NetM} {k : Int} (h : lookB N k = false) : dlvOk N k = false := by unfold dlvOk; rw [h]; rfl
theorem dlv_no {G : List Ob} {x : Nat} {N : NetM} {k : Int} (h : lookB N k = false) : dlvG G x N k = G := by unfold dlvG; rw [if_neg (by simp [dlvOk_no h]), look_no h]
theorem nil_sl (G : List Ob) : Sl G (.slice none 0 0) 1 ([] : List Int).length (([] : List Int).map (Value.int .u8)) := .inl ⟨rfl, rfl, rfl⟩
/-- n noughts. -/
def oG (G : List Ob) (n : Nat) : List Ob := G ++ [.row 1 n (List.replicate n (.int .u8 0))]
theorem o_sl (G : List Ob) (n : Nat) : Sl (oG G n) (tok G.length) 1 (List.replicate n (0 : Int)).length ((List.replicate n (0 : Int)).map (Value.int .u8)) := by
  rw [List.length_replicate, List.map_replicate]
  refine dst_sl (.inr ⟨_, rfl, ?_⟩) (by simp)
  unfold oG
  rw [List.getElem?_append_right (Nat.le_refl _), Nat.sub_self]
  rfl
theorem o_ms (G : List Ob) (n : Nat) (h : n ≤ 1000000) : msR (.int .u8 0) 1 G [.int .i64 n, .int .i64 n] ((Env.ofL [tok G.length]).ans (encG (oG G n))) := ⟨false, n, .i64, .i64, rfl, by omega, by omega, rfl, rfl⟩
theorem sendOk_401 (N : NetM) (v : Value) (a b : Int) : sendOk N ⟨a, b, v, List.replicate 401 0⟩ = false := by
  unfold sendOk
  simp only [List.length_replicate]
  simp
theorem sendOk_400 {N : NetM} (v : Value) (hn : N.nodes = 2) (hl : N.row.length < 1000) : sendOk N ⟨1, 2, v, List.replicate 400 0⟩ = true := by
  unfold sendOk layB
  simp only [List.length_replicate, hn]
  rw [decide_eq_true hl]
  rfl
def kc : List Con := [worksC, lookC, msC 30] ++ wp
def kS : List ConS := [conR worksR, conR lookR, conR (msR (.int .u8 0) 1)] ++ wpS
theorem kc_holds : Cons Try.prog kc kS := ⟨works_holds, look_holds, ms_ok (b := 1) (z := .int .u8 0) Try.underlying30 (by kernel_rfl) rfl, wp_holds⟩
def kLT : List (Nat × LS) := [(7, ⟨[(2, fun b => .int .i64 (.var b))], [], [], true⟩)]
def kInv (nv : Nat) (ρ : Env) : Prop := ∃ G N, ρ.g (nv + 999) = encG G ∧ IsNet G 3 N ∧ N.nodes = 2 ∧ 0 ≤ ρ.i nv ∧ ρ.i nv ≤ 999 ∧ ((N.row.length : Nat) : Int) = ρ.i nv + 1
def kLQ : LoopS := ⟨fun _ nv ρ => kInv nv ρ, fun _ nv ρ => (999 - ρ.i nv).toNat⟩
def knownC : Con := mkCon 6 [] (.bool (.lit true))
def knownS : ConS := fun vs _ => vs = []
theorem wrap_up {i : Int} (h0 : 0 ≤ i) (h1 : i ≤ 1000000) : IntKind.i64.wrap (i + 1) = i + 1 := by rw [inc_small h0 h1]; omega
def treeKnown : Tree :=
 (.call 3 1200 [(.int .i64 (.lit 0)), (.var 199)]
 (.call 12 2200 [(.hnd 1200), (.lit (.pointer none)), (.var 2199)]
 (.split (.var 2200)
 (leafT (.bool (.lit false)) .nil)
 (.call 3 4200 [(.int .i64 (.lit 33)), (.var 2199)]
 (.call 12 5200 [(.hnd 4200), (.lit (.pointer none)), (.var 5199)]
 (.split (.var 5200)
 (leafT (.bool (.lit false)) .nil)
 (.call 3 8200 [(.int .i64 (.lit 32)), (.var 5199)]
 (.call 11 9200 [(.hnd 8200), (.lit (.pointer none)), (.var 9199)]
 (.split (.var 9200)
 (leafT (.bool (.lit false)) .nil)
 (.call 3 11200 [(.int .i64 (.lit 2)), (.var 9199)]
 (.call 11 14200 [(.hnd 11200), (.lit (.pointer none)), (.var 12199)]
 (.split (.var 14200)
 (leafT (.bool (.lit false)) .nil)
 (.call 4 17200 [(.hnd 11200), (.int .i64 (.lit 1)), (.int .i64 (.lit 1)), (.lit (.slice none 0 0)), (.var 12199)]
 (.split (.var 17200)
 (leafT (.bool (.lit false)) .nil)
 (.call 4 21200 [(.hnd 11200), (.int .i64 (.lit 0)), (.int .i64 (.lit 1)), (.lit (.slice none 0 0)), (.var 18199)]
 (.split (.var 21200)
 (leafT (.bool (.lit false)) .nil)
 (.call 4 25200 [(.hnd 11200), (.int .i64 (.lit 1)), (.int .i64 (.lit 3)), (.lit (.slice none 0 0)), (.var 22199)]
 (.split (.var 25200)
 (leafT (.bool (.lit false)) .nil)
 (.call 2 29200 [(.int .i64 (.lit 401)), (.int .i64 (.lit 401)), (.var 26199)]
 (.call 4 30200 [(.hnd 11200), (.int .i64 (.lit 1)), (.int .i64 (.lit 2)), (.hnd 29200), (.var 30199)]
 (.split (.var 30200)
 (leafT (.bool (.lit false)) .nil)
 (.call 2 34200 [(.int .i64 (.lit 400)), (.int .i64 (.lit 400)), (.var 31199)]
 (.call 4 35200 [(.hnd 11200), (.int .i64 (.lit 1)), (.int .i64 (.lit 2)), (.hnd 34200), (.var 35199)]
 (.split (.var 35200)
 (.call 9 40200 [(.hnd 11200), (.int .i64 (.lit 1)), (.int .i64 (.lit 1)), (.bool (.lit true)), (.var 36199)]
 (.split (.var 40200)
 (leafT (.bool (.lit false)) .nil)
 (.call 9 44200 [(.hnd 11200), (.int .i64 (.lit 1)), (.int .i64 (.lit 3)), (.bool (.lit true)), (.var 41199)]
 (.split (.var 44200)
 (leafT (.bool (.lit false)) .nil)
 (.call 5 48200 [(.hnd 11200), (.int .i64 (.lit 1)), (.var 45199)]
 (.split (.var 48200)
 (leafT (.bool (.lit false)) .nil)
 (.call 5 52200 [(.hnd 11200), (.int .i64 (.lit (-1))), (.var 49199)]
 (.split (.var 52200)
 (leafT (.bool (.lit false)) .nil)
 (.call 7 56200 [(.hnd 11200), (.int .i64 (.lit 1)), (.var 53199)]
 (.split (.var 56200)
 (leafT (.bool (.lit false)) .nil)
 (.call 7 60200 [(.hnd 11200), (.int .i64 (.lit (-1))), (.var 57199)]
 (.split (.var 60200)
 (leafT (.bool (.lit false)) .nil)
 (.loop 7 63200 [(63200, (.int .i64 (.lit 0))), (64199, (.var 61199))]
 (.split (.cmp .lss (.var 63200) (.lit 999))
 (.call 5 68200 [(.hnd 11200), (.int .i64 (.var 63200)), (.var 64199)]
 (.split (.var 68200)
 (.again 7 63200 [(63200, (.int .i64 (.bin .add .i64 (.var 63200) (.lit 1)))), (64199, (.var 69199))])
 (leafT (.bool (.lit false)) .nil)))
 (.call 1 67200 [(.hnd 11200), (.int .i64 (.lit (-1))), (.var 64199)]
 (.call 6 75200 [(.hnd 11200), (.int .i64 (.lit 1000)), (.var 68199)]
 (.call 8 83200 [(.hnd 11200), (.var 76199)]
 (.split (.cmp .eql (.var 83200) (.lit 1000))
 (.call 5 87200 [(.hnd 11200), (.int .i64 (.lit 0)), (.var 84199)]
 (.split (.var 87200)
 (leafT (.bool (.lit false)) .nil)
 (.call 4 92200 [(.hnd 11200), (.int .i64 (.lit 1)), (.int .i64 (.lit 2)), (.lit (.slice none 0 0)), (.var 88199)]
 (.split (.var 92200)
 (leafT (.bool (.lit false)) .nil)
 (.split (.var 67203)
 (leafT (.bool (.lit false)) .nil)
 (.split (.var 75203)
 (leafT (.bool (.lit false)) .nil)
 (.call 7 105200 [(.hnd 11200), (.int .i64 (.lit 999)), (.var 93199)]
 (.split (.var 105200)
 (.call 4 109200 [(.hnd 11200), (.int .i64 (.lit 2)), (.int .i64 (.lit 1)), (.lit (.slice none 0 0)), (.var 106199)]
 (.split (.var 109200)
 (.call 0 112200 [(.var 110199)]
 (leafT (.bool (.var 112200)) .nil))
 (leafT (.bool (.lit false)) .nil)))
 (leafT (.bool (.lit false)) .nil)))))))))
 (leafT (.bool (.lit false)) .nil)))))))))))))))))))
 (leafT (.bool (.lit false)) .nil)))))))))))))))))))))))))
theorem known_holds : knownC.holds Try.prog knownS := by
  refine con_of_run (cs := kc) (S := kS) (LT := kLT) (depth := 0) (fuel := 10) (nv := 200) (gh := 0) (av := []) (T := treeKnown) kc_holds (by kernel_rfl) (by kernel_rfl) (by kernel_rfl) ?_
  intro vs g e0 hs
  have hs : vs = [] := hs
  subst hs
  refine ⟨kLQ, (Env.ofL []).st (encG []), rfl, rfl, ?_⟩
  have n0 : newV [] 0 = .pointer none := by unfold newV; rw [if_pos (by decide)]
  have g0 : newG [] 0 = [] := by unfold newG; rw [if_pos (by decide)]
  have n33 : newV [] 33 = .pointer none := by unfold newV; rw [if_pos (by decide)]
  have g33 : newG [] 33 = [] := by unfold newG; rw [if_pos (by decide)]
  have n32 : newV [] 32 = tokAt 1 0 := by unfold newV; rw [if_neg (by decide)]; rfl
  have n2 : newV (newG [] 32) 2 = tokAt 3 0 := by unfold newV newG; rw [if_neg (by decide), if_neg (by decide)]; rfl
  have l32 : (newG [] 32).length = 2 := by unfold newG; rw [if_neg (by decide)]; rfl
  have is2 : IsNet (newG (newG [] 32) 2) 3 (newNet 2 2) := by have := new_is (newG [] 32) (n := 2) (by decide); rw [l32] at this; exact this
  obtain ⟨G32, hG32⟩ : ∃ G, G = newG [] 32 := ⟨_, rfl⟩
  rw [← hG32] at n2 l32 is2
  obtain ⟨G2, hG2⟩ : ∃ G, G = newG G32 2 := ⟨_, rfl⟩
  rw [← hG2] at is2
  have hl1 : 1 < G32.length := by omega
  have hl3 : 3 < G2.length := (List.getElem?_eq_some_iff.1 is2.ob).1
  refine sem_step [] [.int .i64 0] ((Env.ofL [.pointer none]).ans (encG [])) rfl rfl ⟨0, rfl, n0.symm, by rw [g0]; rfl⟩ ?_
  refine sem_step [] [.pointer none, .pointer none] (Env.ofL [.bool false]) rfl rfl ⟨_, _, true, rfl, ⟨rfl, rfl, .inl rfl⟩, rfl⟩ ?_
  refine sem_split (fun h => by cases h) (fun _ => ?_)
  refine sem_step [] [.int .i64 33] ((Env.ofL [.pointer none]).ans (encG [])) rfl rfl ⟨33, rfl, n33.symm, by rw [g33]; rfl⟩ ?_
  refine sem_step [] [.pointer none, .pointer none] (Env.ofL [.bool false]) rfl rfl ⟨_, _, true, rfl, ⟨rfl, rfl, .inl rfl⟩, rfl⟩ ?_
  refine sem_split (fun h => by cases h) (fun _ => ?_)
  refine sem_step [] [.int .i64 32] ((Env.ofL [tokAt 1 0]).ans (encG G32)) rfl rfl ⟨32, rfl, n32.symm, by rw [hG32]; rfl⟩ ?_
  refine sem_step G32 [tokAt 1 0, .pointer none] (Env.ofL [.bool false]) rfl rfl ⟨_, _, false, rfl, ⟨rfl, rfl, .inr ⟨_, _, rfl, hl1⟩⟩, rfl⟩ ?_
  refine sem_split (fun h => by cases h) (fun _ => ?_)
  refine sem_step G32 [.int .i64 2] ((Env.ofL [tokAt 3 0]).ans (encG G2)) rfl rfl ⟨2, rfl, n2.symm, by rw [hG2]; rfl⟩ ?_
  refine sem_step G2 [tokAt 3 0, .pointer none] (Env.ofL [.bool false]) rfl rfl ⟨_, _, false, rfl, ⟨rfl, rfl, .inr ⟨_, _, rfl, hl3⟩⟩, rfl⟩ ?_
  refine sem_split (fun h => by cases h) (fun _ => ?_)
  refine sem_step G2 [tokAt 3 0, .int .i64 1, .int .i64 1, .slice none 0 0] ((Env.ofL [.bool false]).ans (encG G2)) rfl rfl ⟨3, newNet 2 2, ⟨1, 1, .slice none 0 0, []⟩, rfl, is2, nil_sl _, rfl, by rw [send_no rfl]; rfl⟩ ?_
  refine sem_split (fun h => by cases h) (fun _ => ?_)
  refine sem_step G2 [tokAt 3 0, .int .i64 0, .int .i64 1, .slice none 0 0] ((Env.ofL [.bool false]).ans (encG G2)) rfl rfl ⟨3, newNet 2 2, ⟨0, 1, .slice none 0 0, []⟩, rfl, is2, nil_sl _, rfl, by rw [send_no rfl]; rfl⟩ ?_
  refine sem_split (fun h => by cases h) (fun _ => ?_)
  refine sem_step G2 [tokAt 3 0, .int .i64 1, .int .i64 3, .slice none 0 0] ((Env.ofL [.bool false]).ans (encG G2)) rfl rfl ⟨3, newNet 2 2, ⟨1, 3, .slice none 0 0, []⟩, rfl, is2, nil_sl _, rfl, by rw [send_no rfl]; rfl⟩ ?_
  refine sem_split (fun h => by cases h) (fun _ => ?_)
  refine sem_step G2 [.int .i64 401, .int .i64 401] _ rfl rfl (o_ms G2 401 (by decide)) ?_
  have is3 : IsNet (oG G2 401) 3 (newNet 2 2) := is2.append
  refine sem_step (oG G2 401) [tokAt 3 0, .int .i64 1, .int .i64 2, tok G2.length] ((Env.ofL [.bool false]).ans (encG (oG G2 401))) rfl rfl ⟨3, newNet 2 2, ⟨1, 2, tok G2.length, List.replicate 401 0⟩, rfl, is3, o_sl _ _, (sendOk_401 _ _ _ _).symm, by rw [send_no (sendOk_401 _ _ _ _)]; rfl⟩ ?_
  refine sem_split (fun h => by cases h) (fun _ => ?_)
  obtain ⟨G3, hG3⟩ : ∃ G, G = oG G2 401 := ⟨_, rfl⟩
  rw [← hG3] at is3 ⊢
  refine sem_step G3 [.int .i64 400, .int .i64 400] _ rfl rfl (o_ms G3 400 (by decide)) ?_
  have is4 : IsNet (oG G3 400) 3 (newNet 2 2) := is3.append
  have ok4 := sendOk_400 (N := newNet 2 2) (tok G3.length) rfl (by decide)
  obtain ⟨lt, hlt⟩ : ∃ l : Lt, l = ⟨1, 2, tok G3.length, List.replicate 400 0⟩ := ⟨_, rfl⟩
  rw [← hlt] at ok4
  have s4 : Step 3 (newNet 2 2) (oG G3 400) (sendN (oG G3 400) (newNet 2 2) lt) (sendG (oG G3 400) 3 (newNet 2 2) lt) := Step.send is4 (by rw [hlt]; exact o_sl _ _)
  obtain ⟨N5, hN5⟩ : ∃ N, N = sendN (oG G3 400) (newNet 2 2) lt := ⟨_, rfl⟩
  obtain ⟨G5, hG5⟩ : ∃ G, G = sendG (oG G3 400) 3 (newNet 2 2) lt := ⟨_, rfl⟩
  have e5 : N5.row.length = 1 ∧ N5.nodes = 2 := by
    rw [hN5]; unfold sendN; rw [if_pos ok4]; exact ⟨rfl, rfl⟩
  refine sem_step (oG G3 400) [tokAt 3 0, .int .i64 1, .int .i64 2, tok G3.length] ((Env.ofL [.bool true]).ans (encG G5)) rfl rfl ⟨3, newNet 2 2, lt, by rw [hlt], is4, by rw [hlt]; exact o_sl _ _, ok4.symm, by rw [hG5]; rfl⟩ ?_
  rw [← hN5, ← hG5] at s4
  have is5 := s4.is_
  refine sem_split (fun _ => ?_) (fun h => by cases h)
  have c11 : wayB N5.nodes 1 1 = false := by rw [e5.2]; rfl
  have c13 : wayB N5.nodes 1 3 = false := by rw [e5.2]; rfl
  have l1 : lookB N5 1 = false := by unfold lookB; rw [e5.1]; rfl
  have lm : lookB N5 (-1) = false := by unfold lookB; rw [e5.1]; rfl
  refine sem_step G5 [tokAt 3 0, .int .i64 1, .int .i64 1, .bool true] ((Env.ofL [.bool false]).ans (encG G5)) rfl rfl ⟨3, N5, 1, 1, true, rfl, is5, c11.symm, by rw [cut_no c11]; rfl⟩ ?_
  refine sem_split (fun h => by cases h) (fun _ => ?_)
  refine sem_step G5 [tokAt 3 0, .int .i64 1, .int .i64 3, .bool true] ((Env.ofL [.bool false]).ans (encG G5)) rfl rfl ⟨3, N5, 1, 3, true, rfl, is5, c13.symm, by rw [cut_no c13]; rfl⟩ ?_
  refine sem_split (fun h => by cases h) (fun _ => ?_)
  refine sem_step G5 [tokAt 3 0, .int .i64 1] ((Env.ofL [.bool false]).ans (encG G5)) rfl rfl ⟨3, N5, 1, rfl, is5, (dblOk_no l1).symm, by rw [dbl_no l1]; rfl⟩ ?_
  refine sem_split (fun h => by cases h) (fun _ => ?_)
  refine sem_step G5 [tokAt 3 0, .int .i64 (-1)] ((Env.ofL [.bool false]).ans (encG G5)) rfl rfl ⟨3, N5, -1, rfl, is5, (dblOk_no lm).symm, by rw [dbl_no lm]; rfl⟩ ?_
  refine sem_split (fun h => by cases h) (fun _ => ?_)
  refine sem_step G5 [tokAt 3 0, .int .i64 1] ((Env.ofL [.bool false]).ans (encG G5)) rfl rfl ⟨3, N5, 1, rfl, is5, l1.symm, by rw [los_no l1]; rfl⟩ ?_
  refine sem_split (fun h => by cases h) (fun _ => ?_)
  refine sem_step G5 [tokAt 3 0, .int .i64 (-1)] ((Env.ofL [.bool false]).ans (encG G5)) rfl rfl ⟨3, N5, -1, rfl, is5, lm.symm, by rw [los_no lm]; rfl⟩ ?_
  refine sem_split (fun h => by cases h) (fun _ => ?_)
  refine sem_loop (Env.from_ _ 63200 ((Env.ofL [.int .i64 0]).ans (encG G5))) (Env.from_ag _ _ _) rfl ⟨G5, N5, rfl, is5, e5.2, Int.le_refl 0, (by show (0 : Int) ≤ 999; decide), by rw [e5.1]; rfl⟩ (by kernel_rfl) (fun ρ1 ρ2 h => ?_) (fun ρ hag hinv => ?_)
  · show (999 - ρ2.i 63200).toNat = (999 - ρ1.i 63200).toNat
    rw [(h 63200 (by decide)).1]
  obtain ⟨G, N, hg, hN, hn, h0, h1, hlen⟩ := hinv
  have hx : ρ.v 11200 = tokAt 3 0 := (hag 11200 (by decide)).2.2
  refine sem_split (fun h => ?_) (fun h => ?_)
  · have h : ρ.i 63200 < 999 := of_decide_eq_true h
    have h0 : 0 ≤ ρ.i 63200 := h0
    have hlen : ((N.row.length : Nat) : Int) = ρ.i 63200 + 1 := hlen
    have hb : lookB N (ρ.i 63200) = true := by unfold lookB; exact decide_eq_true ⟨h0, by omega⟩
    have hr : layB N = true := by unfold layB; exact decide_eq_true (by omega)
    have hd : dblOk N (ρ.i 63200) = true := by unfold dblOk; rw [hb, hr]; rfl
    obtain ⟨G', hG'⟩ : ∃ g, g = dblG G 3 N (ρ.i 63200) := ⟨_, rfl⟩
    have hs := Step.dbl hN (ρ.i 63200)
    have hN' : (dblN G N (ρ.i 63200)).nodes = 2 ∧ (dblN G N (ρ.i 63200)).row.length = N.row.length + 1 := by
      unfold dblN
      rw [if_pos hd]
      exact ⟨hn, by show (N.row ++ [_]).length = _; simp⟩
    rw [← hG'] at hs
    refine sem_step G [tokAt 3 0, .int .i64 (ρ.i 63200)] ((Env.ofL [.bool true]).ans (encG G')) rfl (by show [oneOf (ρ.v 11200), Value.int .i64 (ρ.i 63200), ρ.g 64199] = _; rw [hx, show ρ.g 64199 = encG G from hg]; rfl) ⟨3, N, _, rfl, hN, hd.symm, by rw [hG']; rfl⟩ ?_
    refine sem_split (fun _ => ?_) (fun h => by cases h)
    have hw := wrap_up h0 (by omega : ρ.i 63200 ≤ 1000000)
    refine sem_again (Env.from_ _ 63200 ((Env.ofL [.int .i64 (ρ.i 63200 + 1)]).ans (encG G'))) (Env.from_ag _ _ _) ?_ ⟨G', _, rfl, hs.is_, hN'.1, ?_, ?_, ?_⟩ ?_
    · show [Value.int .i64 (ρ.i 63200 + 1), encG G'] = [Value.int .i64 (IntKind.i64.wrap (ρ.i 63200 + 1)), _]
      rw [hw]
      rfl
    · show 0 ≤ ρ.i 63200 + 1
      omega
    · show ρ.i 63200 + 1 ≤ 999
      omega
    · show _ = ρ.i 63200 + 1 + 1
      rw [hN'.2]
      omega
    · show (999 - (ρ.i 63200 + 1)).toNat < (999 - ρ.i 63200).toNat
      omega
  · have h : ¬ ρ.i 63200 < 999 := of_decide_eq_false h
    have h1 : ρ.i 63200 ≤ 999 := h1
    have hlen : ((N.row.length : Nat) : Int) = ρ.i 63200 + 1 := hlen
    have hlen : N.row.length = 1000 := by omega
    have lm : lookB N (-1) = false := by unfold lookB; rw [hlen]; rfl
    have lk : lookB N 1000 = false := by unfold lookB; rw [hlen]; rfl
    have l9 : lookB N 999 = true := by unfold lookB; rw [hlen]; rfl
    have hr : layB N = false := by unfold layB; rw [hlen]; rfl
    have hL : lookL G N (-1) = ⟨0, 0, .slice none 0 0, []⟩ := by unfold lookL; rw [lm]; rfl
    have hD : dlvL G N 1000 = ⟨0, 0, .slice none 0 0, []⟩ := by unfold dlvL; rw [dlvOk_no lk]; rfl
    have hd : dblOk N 0 = false := by unfold dblOk; rw [hr, Bool.and_false]
    have hgx : [oneOf (ρ.v 11200), Value.int .i64 (-1), ρ.g 64199] = [tokAt 3 0, .int .i64 (-1), encG G] := by rw [hx, show ρ.g 64199 = encG G from hg]; rfl
    have nx : ∀ l : List Value, oneOf (ρ.v 11200) :: l = tokAt 3 0 :: l := fun l => by rw [hx]; rfl
    refine sem_step G [tokAt 3 0, .int .i64 (-1)] ((Env.ofL [.int .i64 0, .int .i64 0, .slice none 0 0, .bool false]).ans (encG G)) rfl hgx ⟨3, N, -1, rfl, hN, by rw [hL]; rfl, by rw [hL]; rfl, by rw [hL]; rfl, lm.symm, by rw [look_no lm]; rfl⟩ ?_
    refine sem_step G [tokAt 3 0, .int .i64 1000] ((Env.ofL [.int .i64 0, .int .i64 0, .slice none 0 0, .bool false]).ans (encG G)) rfl (nx _) ⟨3, N, 1000, rfl, hN, by rw [hD]; rfl, by rw [hD]; rfl, by rw [hD]; rfl, (dlvOk_no lk).symm, by rw [dlv_no lk]; rfl⟩ ?_
    refine sem_step G [tokAt 3 0] ((Env.ofL [.int .i64 1000]).ans (encG G)) rfl (nx _) ⟨3, N, rfl, hN, by rw [hlen]; rfl, rfl⟩ ?_
    refine sem_split (fun _ => ?_) (fun h => by cases h)
    have s1 := Step.look hN 0
    obtain ⟨Ga, hGa⟩ : ∃ g, g = lookG G N 0 := ⟨_, rfl⟩
    have hdb : dblG G 3 N 0 = Ga := by unfold dblG; rw [if_neg (by simp [hd]), hGa]
    rw [← hGa] at s1
    refine sem_step G [tokAt 3 0, .int .i64 0] ((Env.ofL [.bool false]).ans (encG Ga)) rfl (nx _) ⟨3, N, 0, rfl, hN, hd.symm, by rw [hdb]; rfl⟩ ?_
    refine sem_split (fun h => by cases h) (fun _ => ?_)
    have hso : sendOk N ⟨1, 2, .slice none 0 0, []⟩ = false := by unfold sendOk; rw [hr, Bool.and_false]
    refine sem_step Ga [tokAt 3 0, .int .i64 1, .int .i64 2, .slice none 0 0] ((Env.ofL [.bool false]).ans (encG Ga)) rfl (nx _) ⟨3, N, ⟨1, 2, .slice none 0 0, []⟩, rfl, s1.is_, nil_sl _, hso.symm, by rw [send_no hso]; rfl⟩ ?_
    refine sem_split (fun h => by cases h) (fun _ => ?_)
    refine sem_split (fun h => by cases h) (fun _ => ?_)
    refine sem_split (fun h => by cases h) (fun _ => ?_)
    have s2 := Step.los s1.is_ 999
    obtain ⟨Gb, hGb⟩ : ∃ g, g = losG Ga 3 N 999 := ⟨_, rfl⟩
    obtain ⟨Nb, hNb⟩ : ∃ n, n = losN Ga 3 N 999 := ⟨_, rfl⟩
    have hlb : Nb.row.length = 999 ∧ Nb.nodes = 2 := by
      rw [hNb]
      unfold losN
      rw [if_pos l9]
      refine ⟨?_, hn⟩
      show (N.row.eraseIdx 999).length = 999
      rw [List.length_eraseIdx, hlen]
      rfl
    rw [← hGb, ← hNb] at s2
    refine sem_step Ga [tokAt 3 0, .int .i64 999] ((Env.ofL [.bool true]).ans (encG Gb)) rfl (nx _) ⟨3, N, 999, rfl, s1.is_, l9.symm, by rw [hGb]; rfl⟩ ?_
    refine sem_split (fun _ => ?_) (fun h => by cases h)
    have hsb : sendOk Nb ⟨2, 1, .slice none 0 0, []⟩ = true := by
      unfold sendOk layB
      rw [hlb.1]
      simp only [hlb.2]
      rfl
    obtain ⟨Gc, hGc⟩ : ∃ g, g = sendG Gb 3 Nb ⟨2, 1, .slice none 0 0, []⟩ := ⟨_, rfl⟩
    refine sem_step Gb [tokAt 3 0, .int .i64 2, .int .i64 1, .slice none 0 0] ((Env.ofL [.bool true]).ans (encG Gc)) rfl (nx _) ⟨3, Nb, ⟨2, 1, .slice none 0 0, []⟩, rfl, s2.is_, nil_sl _, hsb.symm, by rw [hGc]; rfl⟩ ?_
    refine sem_split (fun _ => ?_) (fun h => by cases h)
    refine sem_step Gc [] ((Env.ofL [.bool true]).ans (encG (worksG Gc))) rfl rfl ⟨rfl, rfl, rfl⟩ ?_
    exact ⟨rfl, rfl, trivial, .inl rfl⟩
theorem Known_any (w : World) : Calls Try.prog 6 #[] w (Ret (.bool true) w) :=
  ret_of_con (e0 := Env.ofL []) known_holds rfl rfl (fun _ => rfl) w
end Go.Proofs.Yteklnfajpignoaa
