/- What is proved: the walk of NetLast's last loops; printed by mk_LA.py. No condition but those each law names. -/
import Derived.Test.YteklnfajpignoaaL2
namespace Go.Proofs.Yteklnfajpignoaa
open Sx hiding Sl
set_option maxRecDepth 100000

/-- A net and the row of what came in. -/
abbrev One (G : List Ob) (n : Nat) (N : NetM) (vi : Value) (ri : List Lt) : Prop := Two G n N vi ri (.slice none 0 0) []
def lInv7 (G0 : List Ob) (n : Nat) (m : Int) (L : List AD) (nv : Nat) (ρ : Env) : Prop := ∃ G N ri, ∃ k : Nat, ρ.g (nv + 999) = encG G ∧ ρ.i nv = k ∧ k ≤ L.length ∧ One G n N (ρ.v (nv + 1)) ri ∧ Flat N.data m (ri.map Lt.data) ∧ ri.length ≤ k ∧
  (∀ l ∈ ri, (1 ≤ l.f ∧ l.f ≤ m) ∧ (1 ≤ l.t ∧ l.t ≤ m) ∧ l.f ≠ l.t) ∧ KeepsRo G0 G
def lInv19 (G0 : List Ob) (n : Nat) (m : Int) (a b : Int) (nv : Nat) (ρ : Env) : Prop := ∃ G N ri, ∃ k : Nat, ρ.g (nv + 999) = encG G ∧ ρ.i nv = k ∧ k ≤ ri.length ∧ One G n N (ρ.v 21201) ri ∧ CutAt N.data m (ri.map Lt.data) a b ∧ ri.length ≤ 100 ∧ KeepsRo G0 G
def lInv31 (G0 : List Ob) (n : Nat) (m : Int) (nv : Nat) (ρ : Env) : Prop := ∃ G N ri, ∃ k : Nat, ρ.g (nv + 999) = encG G ∧ ρ.i nv = k ∧ k ≤ ri.length ∧ One G n N (ρ.v 21201) ri ∧ Flat N.data m ((ri.drop k).map Lt.data) ∧ ri.length ≤ 100 ∧ KeepsRo G0 G
def lLQ (G0 : List Ob) (n : Nat) (m : Int) (L : List AD) : LoopS :=
  ⟨fun j nv ρ => match j with | 7 => lInv7 G0 n m L nv ρ | 19 => ∃ a b, ρ.i 35200 = a ∧ ρ.i 35201 = b ∧ lInv19 G0 n m a b nv ρ | _ => lInv31 G0 n m nv ρ,
   fun j nv ρ => match j with | 7 => (L.length - ρ.i nv).toNat | _ => (1000 - ρ.i nv).toNat⟩
theorem cnt_one {x y : Lt} (h : y.data = x.data) : cntL ([x].map Lt.data) y.data = 1 := by
  rw [h]
  simp [cntL, eqL]
theorem One.row_at {G : List Ob} {n : Nat} {N : NetM} {v : Value} {ri : List Lt} (hT : One G n N v ri) (h : 0 < ri.length) : ∃ d, v = tok d ∧ G[d]? = some (.row 3 ri.length (rowC ri)) := by
  rcases hT.di with ⟨_, e, _⟩ | h'
  · omega
  · exact h'
/-- A part of one letter is that letter. -/
theorem sem_one {LQ : LoopS} {K : Env → Ex → St → Prop} {ρ : Env} {V A : Nat} {vs1 vs2 : List E} {t f : Tree} {G : List Ob} {n : Nat} {N : NetM} {v : Value} {ri : List Lt} {k : Nat} {lt : Lt} (hT : One G n N v ri) (hk : k < ri.length) (hL : LOk G lt) (hd : lt.data = ri[k].data)
    (h1 : E.nams ρ lay0 vs1 = [v, .int .i64 k, .int .i64 ((k : Int) + 1), encG G])
    (h2 : ∀ d, E.nams (ρ.from_ V ((Env.ofL [tok G.length]).ans (encG (viG G d k)))) lay0 vs2 = [tok G.length, .agg lt.cells.toArray, encG (viG G d k)])
    (hA : ∀ (ρ' : Env) e, (ρ'.from_ A e).i A = e.i 0)
    (h3 : ∀ d, One (viG G d k) n N v ri → Keeps G (viG G d k) → treeSem lcS LQ K ((ρ.from_ V ((Env.ofL [tok G.length]).ans (encG (viG G d k)))).from_ A ((Env.ofL [.int .i64 1]).ans (encG (viG G d k)))) t) :
    treeSem lcS LQ K ρ (.call 24 V vs1 (.call 11 A vs2 (.split (.cmp .eql (.var A) (.lit 1)) t f))) := by
  obtain ⟨d, hv, hdG⟩ := hT.row_at (by omega)
  have hkp := vi_keeps G d k
  have hs := Step.of_keeps hT.is_ hkp (by simp [viG])
  have hT2 := hT.step hs
  have hL2 : LOk (viG G d k) lt := ⟨hs.dst hT.is_ hL.1, hL.2⟩
  have hc := cnt_one hd
  refine sem_step G [v, .int .i64 k, .int .i64 ((k : Int) + 1)] ((Env.ofL [tok G.length]).ans (encG (viG G d k))) rfl h1 (by rw [hv]; exact vi_viR hdG hk rfl) ?_
  refine sem_step (viG G d k) [tok G.length, .agg lt.cells.toArray] ((Env.ofL [.int .i64 1]).ans (encG (viG G d k))) rfl (h2 d) ⟨_, [ri[k]], lt, rfl, vi_sl hdG hk, ls_one (hT2.li _ (List.getElem_mem _)), ls_one hL2, by simp, by rw [hc]; rfl, rfl⟩ ?_
  refine sem_split (fun _ => h3 d hT2 hkp) (fun h => ?_)
  have h : ((Env.from_ (Env.from_ ρ V ((Env.ofL [tok G.length]).ans (encG (viG G d k)))) A ((Env.ofL [.int .i64 1]).ans (encG (viG G d k)))).i A == 1) = false := h
  rw [hA] at h
  cases h
def t31_57200 : Tree :=
 (.loop 31 57200 [(57200, (.int .i64 (.lit 0))), (58199, (.var 56199))] 
 (.call 12 60200 [(.hnd 21201), (.var 58199)] 
 (.split (.cmp .lss (.var 57200) (.var 60200)) 
 (.call 16 63200 [(.hnd 6200), (.int .i64 (.lit 0)), (.var 58199)] 
 (.split (.var 63203) 
 (.call 24 77200 [(.hnd 21201), (.int .i64 (.var 57200)), (.int .i64 (.bin .add .i64 (.var 57200) (.lit 1))), (.var 64199)] 
 (.call 11 79200 [(.hnd 77200), (.agg ([(.int .i64 (.var 63200)), (.int .i64 (.var 63201)), (.hnd 63202)])), (.var 78199)] 
 (.split (.cmp .eql (.var 79200) (.lit 1)) 
 (.again 31 57200 [(57200, (.int .i64 (.bin .add .i64 (.var 57200) (.lit 1)))), (58199, (.var 80199))]) (leafG (.bool (.lit false)) .nil 80199)))) (leafG (.bool (.lit false)) .nil 64199))) 
 (.call 16 63200 [(.hnd 6200), (.int .i64 (.lit 0)), (.var 58199)] 
 (.split (.var 63203) (leafG (.bool (.lit false)) .nil 64199) 
 (.call 18 74200 [(.hnd 6200), (.var 64199)] 
 (.split (.cmp .eql (.var 74200) (.lit 0)) 
 (.call 2 78200 [(.var 75199)] (leafG (.bool (.var 78200)) .nil 79199)) (leafG (.bool (.lit false)) .nil 75199))))))))
def t31_30200 : Tree :=
 (.loop 31 30200 [(30200, (.int .i64 (.lit 0))), (31199, (.var 22199))] 
 (.call 12 33200 [(.hnd 21201), (.var 31199)] 
 (.split (.cmp .lss (.var 30200) (.var 33200)) 
 (.call 16 36200 [(.hnd 6200), (.int .i64 (.lit 0)), (.var 31199)] 
 (.split (.var 36203) 
 (.call 24 50200 [(.hnd 21201), (.int .i64 (.var 30200)), (.int .i64 (.bin .add .i64 (.var 30200) (.lit 1))), (.var 37199)] 
 (.call 11 52200 [(.hnd 50200), (.agg ([(.int .i64 (.var 36200)), (.int .i64 (.var 36201)), (.hnd 36202)])), (.var 51199)] 
 (.split (.cmp .eql (.var 52200) (.lit 1)) 
 (.again 31 30200 [(30200, (.int .i64 (.bin .add .i64 (.var 30200) (.lit 1)))), (31199, (.var 53199))]) (leafG (.bool (.lit false)) .nil 53199)))) (leafG (.bool (.lit false)) .nil 37199))) 
 (.call 16 36200 [(.hnd 6200), (.int .i64 (.lit 0)), (.var 31199)] 
 (.split (.var 36203) (leafG (.bool (.lit false)) .nil 37199) 
 (.call 18 47200 [(.hnd 6200), (.var 37199)] 
 (.split (.cmp .eql (.var 47200) (.lit 0)) 
 (.call 2 51200 [(.var 48199)] (leafG (.bool (.var 51200)) .nil 52199)) (leafG (.bool (.lit false)) .nil 48199))))))))
def lSame : Tree :=
 
 (.call 16 101200 [(.hnd 6200), (.int .i64 (.var 45200)), (.var 92199)] 
 (.split (.var 101203) (leafG (.bool (.lit false)) .nil 102199) 
 (.call 18 111200 [(.hnd 6200), (.var 102199)] 
 (.call 12 113200 [(.hnd 21201), (.var 112199)] 
 (.split (.cmp .eql (.var 111200) (.var 113200)) 
 (.call 24 120200 [(.hnd 21201), (.int .i64 (.var 45200)), (.int .i64 (.bin .add .i64 (.var 45200) (.lit 1))), (.var 112199)] 
 (.call 11 122200 [(.hnd 120200), (.agg ([(.int .i64 (.var 91200)), (.int .i64 (.var 91201)), (.hnd 91202)])), (.var 121199)] 
 (.split (.cmp .eql (.var 122200) (.lit 1)) 
 (.again 19 45200 [(45200, (.int .i64 (.bin .add .i64 (.var 45200) (.lit 1)))), (46199, (.var 123199))]) (leafG (.bool (.lit false)) .nil 123199)))) (leafG (.bool (.lit false)) .nil 112199))))))
def lNot : Tree :=
 
 (.call 24 103200 [(.hnd 21201), (.int .i64 (.var 45200)), (.int .i64 (.bin .add .i64 (.var 45200) (.lit 1))), (.var 92199)] 
 (.call 11 105200 [(.hnd 103200), (.agg ([(.int .i64 (.var 91200)), (.int .i64 (.var 91201)), (.hnd 91202)])), (.var 104199)] 
 (.split (.cmp .eql (.var 105200) (.lit 1)) 
 (.again 19 45200 [(45200, (.int .i64 (.bin .add .i64 (.var 45200) (.lit 1)))), (46199, (.var 106199))]) (leafG (.bool (.lit false)) .nil 106199))))
def lBack : Tree :=
 
 (.call 15 55200 [(.hnd 6200), (.int .i64 (.var 35200)), (.int .i64 (.var 35201)), (.bool (.lit false)), (.var 46199)] (.loop 31 57200 [(57200, (.int .i64 (.lit 0))), (58199, (.var 56199))] 
 (.call 12 60200 [(.hnd 21201), (.var 58199)] 
 (.split (.cmp .lss (.var 57200) (.var 60200)) 
 (.call 16 63200 [(.hnd 6200), (.int .i64 (.lit 0)), (.var 58199)] 
 (.split (.var 63203) 
 (.call 24 77200 [(.hnd 21201), (.int .i64 (.var 57200)), (.int .i64 (.bin .add .i64 (.var 57200) (.lit 1))), (.var 64199)] 
 (.call 11 79200 [(.hnd 77200), (.agg ([(.int .i64 (.var 63200)), (.int .i64 (.var 63201)), (.hnd 63202)])), (.var 78199)] 
 (.split (.cmp .eql (.var 79200) (.lit 1)) 
 (.again 31 57200 [(57200, (.int .i64 (.bin .add .i64 (.var 57200) (.lit 1)))), (58199, (.var 80199))]) (leafG (.bool (.lit false)) .nil 80199)))) (leafG (.bool (.lit false)) .nil 64199))) 
 (.call 16 63200 [(.hnd 6200), (.int .i64 (.lit 0)), (.var 58199)] 
 (.split (.var 63203) (leafG (.bool (.lit false)) .nil 64199) 
 (.call 18 74200 [(.hnd 6200), (.var 64199)] 
 (.split (.cmp .eql (.var 74200) (.lit 0)) 
 (.call 2 78200 [(.var 75199)] (leafG (.bool (.var 78200)) .nil 79199)) (leafG (.bool (.lit false)) .nil 75199)))))))))
def t19 : Tree :=
 (.loop 19 45200 [(45200, (.int .i64 (.lit 0))), (46199, (.var 44199))] 
 (.call 12 48200 [(.hnd 21201), (.var 46199)] 
 (.split (.cmp .lss (.var 45200) (.var 48200)) 
 (.or 
 (.or 
 (.call 13 52200 [(.hnd 21201), (.int .i64 (.var 45200)), (.var 46199)] 
 (.call 5 54200 [(.pla (.var 52200) (.var 52201) 0), (.var 46199)] 
 (.call 13 61200 [(.hnd 21201), (.int .i64 (.var 45200)), (.var 46199)] 
 (.call 5 63200 [(.pla (.var 61200) (.var 61201) 1), (.var 46199)] (.need (.cmp .eql (.var 63200) (.var 35201)) (.need (.cmp .eql (.var 54200) (.var 35200)) 
 (.call 19 91200 [(.hnd 6200), (.int .i64 (.var 45200)), (.var 46199)] 
 (.call 16 101200 [(.hnd 6200), (.int .i64 (.var 45200)), (.var 92199)] 
 (.split (.var 101203) (leafG (.bool (.lit false)) .nil 102199) 
 (.call 18 111200 [(.hnd 6200), (.var 102199)] 
 (.call 12 113200 [(.hnd 21201), (.var 112199)] 
 (.split (.cmp .eql (.var 111200) (.var 113200)) 
 (.call 24 120200 [(.hnd 21201), (.int .i64 (.var 45200)), (.int .i64 (.bin .add .i64 (.var 45200) (.lit 1))), (.var 112199)] 
 (.call 11 122200 [(.hnd 120200), (.agg ([(.int .i64 (.var 91200)), (.int .i64 (.var 91201)), (.hnd 91202)])), (.var 121199)] 
 (.split (.cmp .eql (.var 122200) (.lit 1)) 
 (.again 19 45200 [(45200, (.int .i64 (.bin .add .i64 (.var 45200) (.lit 1)))), (46199, (.var 123199))]) (leafG (.bool (.lit false)) .nil 123199)))) (leafG (.bool (.lit false)) .nil 112199))))))))))))) 
 (.or 
 (.call 13 52200 [(.hnd 21201), (.int .i64 (.var 45200)), (.var 46199)] 
 (.call 5 54200 [(.pla (.var 52200) (.var 52201) 0), (.var 46199)] 
 (.call 13 61200 [(.hnd 21201), (.int .i64 (.var 45200)), (.var 46199)] 
 (.call 5 63200 [(.pla (.var 61200) (.var 61201) 1), (.var 46199)] 
 (.call 13 71200 [(.hnd 21201), (.int .i64 (.var 45200)), (.var 46199)] 
 (.call 5 73200 [(.pla (.var 71200) (.var 71201) 0), (.var 46199)] 
 (.call 13 80200 [(.hnd 21201), (.int .i64 (.var 45200)), (.var 46199)] 
 (.call 5 82200 [(.pla (.var 80200) (.var 80201) 1), (.var 46199)] (.need (.cmp .eql (.var 73200) (.var 35201)) (.need (.not (.cmp .eql (.var 63200) (.var 35201))) (.need (.cmp .eql (.var 54200) (.var 35200)) 
 (.call 19 91200 [(.hnd 6200), (.int .i64 (.var 45200)), (.var 46199)] 
 (.split (.cmp .eql (.var 82200) (.var 35200)) 
 (.call 16 101200 [(.hnd 6200), (.int .i64 (.var 45200)), (.var 92199)] 
 (.split (.var 101203) (leafG (.bool (.lit false)) .nil 102199) 
 (.call 18 111200 [(.hnd 6200), (.var 102199)] 
 (.call 12 113200 [(.hnd 21201), (.var 112199)] 
 (.split (.cmp .eql (.var 111200) (.var 113200)) 
 (.call 24 120200 [(.hnd 21201), (.int .i64 (.var 45200)), (.int .i64 (.bin .add .i64 (.var 45200) (.lit 1))), (.var 112199)] 
 (.call 11 122200 [(.hnd 120200), (.agg ([(.int .i64 (.var 91200)), (.int .i64 (.var 91201)), (.hnd 91202)])), (.var 121199)] 
 (.split (.cmp .eql (.var 122200) (.lit 1)) 
 (.again 19 45200 [(45200, (.int .i64 (.bin .add .i64 (.var 45200) (.lit 1)))), (46199, (.var 123199))]) (leafG (.bool (.lit false)) .nil 123199)))) (leafG (.bool (.lit false)) .nil 112199)))))) 
 (.call 24 103200 [(.hnd 21201), (.int .i64 (.var 45200)), (.int .i64 (.bin .add .i64 (.var 45200) (.lit 1))), (.var 92199)] 
 (.call 11 105200 [(.hnd 103200), (.agg ([(.int .i64 (.var 91200)), (.int .i64 (.var 91201)), (.hnd 91202)])), (.var 104199)] 
 (.split (.cmp .eql (.var 105200) (.lit 1)) 
 (.again 19 45200 [(45200, (.int .i64 (.bin .add .i64 (.var 45200) (.lit 1)))), (46199, (.var 106199))]) (leafG (.bool (.lit false)) .nil 106199))))))))))))))))) 
 (.call 13 52200 [(.hnd 21201), (.int .i64 (.var 45200)), (.var 46199)] 
 (.call 5 54200 [(.pla (.var 52200) (.var 52201) 0), (.var 46199)] 
 (.call 13 61200 [(.hnd 21201), (.int .i64 (.var 45200)), (.var 46199)] 
 (.call 5 63200 [(.pla (.var 61200) (.var 61201) 1), (.var 46199)] 
 (.call 13 71200 [(.hnd 21201), (.int .i64 (.var 45200)), (.var 46199)] 
 (.call 5 73200 [(.pla (.var 71200) (.var 71201) 0), (.var 46199)] (.need (.not (.cmp .eql (.var 73200) (.var 35201))) (.need (.not (.cmp .eql (.var 63200) (.var 35201))) (.need (.cmp .eql (.var 54200) (.var 35200)) 
 (.call 19 91200 [(.hnd 6200), (.int .i64 (.var 45200)), (.var 46199)] 
 (.call 24 103200 [(.hnd 21201), (.int .i64 (.var 45200)), (.int .i64 (.bin .add .i64 (.var 45200) (.lit 1))), (.var 92199)] 
 (.call 11 105200 [(.hnd 103200), (.agg ([(.int .i64 (.var 91200)), (.int .i64 (.var 91201)), (.hnd 91202)])), (.var 104199)] 
 (.split (.cmp .eql (.var 105200) (.lit 1)) 
 (.again 19 45200 [(45200, (.int .i64 (.bin .add .i64 (.var 45200) (.lit 1)))), (46199, (.var 106199))]) (leafG (.bool (.lit false)) .nil 106199)))))))))))))))) 
 (.or 
 (.call 13 52200 [(.hnd 21201), (.int .i64 (.var 45200)), (.var 46199)] 
 (.call 5 54200 [(.pla (.var 52200) (.var 52201) 0), (.var 46199)] 
 (.call 13 71200 [(.hnd 21201), (.int .i64 (.var 45200)), (.var 46199)] 
 (.call 5 73200 [(.pla (.var 71200) (.var 71201) 0), (.var 46199)] 
 (.call 13 80200 [(.hnd 21201), (.int .i64 (.var 45200)), (.var 46199)] 
 (.call 5 82200 [(.pla (.var 80200) (.var 80201) 1), (.var 46199)] (.need (.cmp .eql (.var 73200) (.var 35201)) (.need (.not (.cmp .eql (.var 54200) (.var 35200))) 
 (.call 19 91200 [(.hnd 6200), (.int .i64 (.var 45200)), (.var 46199)] 
 (.split (.cmp .eql (.var 82200) (.var 35200)) 
 (.call 16 101200 [(.hnd 6200), (.int .i64 (.var 45200)), (.var 92199)] 
 (.split (.var 101203) (leafG (.bool (.lit false)) .nil 102199) 
 (.call 18 111200 [(.hnd 6200), (.var 102199)] 
 (.call 12 113200 [(.hnd 21201), (.var 112199)] 
 (.split (.cmp .eql (.var 111200) (.var 113200)) 
 (.call 24 120200 [(.hnd 21201), (.int .i64 (.var 45200)), (.int .i64 (.bin .add .i64 (.var 45200) (.lit 1))), (.var 112199)] 
 (.call 11 122200 [(.hnd 120200), (.agg ([(.int .i64 (.var 91200)), (.int .i64 (.var 91201)), (.hnd 91202)])), (.var 121199)] 
 (.split (.cmp .eql (.var 122200) (.lit 1)) 
 (.again 19 45200 [(45200, (.int .i64 (.bin .add .i64 (.var 45200) (.lit 1)))), (46199, (.var 123199))]) (leafG (.bool (.lit false)) .nil 123199)))) (leafG (.bool (.lit false)) .nil 112199)))))) 
 (.call 24 103200 [(.hnd 21201), (.int .i64 (.var 45200)), (.int .i64 (.bin .add .i64 (.var 45200) (.lit 1))), (.var 92199)] 
 (.call 11 105200 [(.hnd 103200), (.agg ([(.int .i64 (.var 91200)), (.int .i64 (.var 91201)), (.hnd 91202)])), (.var 104199)] 
 (.split (.cmp .eql (.var 105200) (.lit 1)) 
 (.again 19 45200 [(45200, (.int .i64 (.bin .add .i64 (.var 45200) (.lit 1)))), (46199, (.var 106199))]) (leafG (.bool (.lit false)) .nil 106199)))))))))))))) 
 (.call 13 52200 [(.hnd 21201), (.int .i64 (.var 45200)), (.var 46199)] 
 (.call 5 54200 [(.pla (.var 52200) (.var 52201) 0), (.var 46199)] 
 (.call 13 71200 [(.hnd 21201), (.int .i64 (.var 45200)), (.var 46199)] 
 (.call 5 73200 [(.pla (.var 71200) (.var 71201) 0), (.var 46199)] (.need (.not (.cmp .eql (.var 73200) (.var 35201))) (.need (.not (.cmp .eql (.var 54200) (.var 35200))) 
 (.call 19 91200 [(.hnd 6200), (.int .i64 (.var 45200)), (.var 46199)] 
 (.call 24 103200 [(.hnd 21201), (.int .i64 (.var 45200)), (.int .i64 (.bin .add .i64 (.var 45200) (.lit 1))), (.var 92199)] 
 (.call 11 105200 [(.hnd 103200), (.agg ([(.int .i64 (.var 91200)), (.int .i64 (.var 91201)), (.hnd 91202)])), (.var 104199)] 
 (.split (.cmp .eql (.var 105200) (.lit 1)) 
 (.again 19 45200 [(45200, (.int .i64 (.bin .add .i64 (.var 45200) (.lit 1)))), (46199, (.var 106199))]) (leafG (.bool (.lit false)) .nil 106199))))))))))))) 
 (.call 15 55200 [(.hnd 6200), (.int .i64 (.var 35200)), (.int .i64 (.var 35201)), (.bool (.lit false)), (.var 46199)] (.loop 31 57200 [(57200, (.int .i64 (.lit 0))), (58199, (.var 56199))] 
 (.call 12 60200 [(.hnd 21201), (.var 58199)] 
 (.split (.cmp .lss (.var 57200) (.var 60200)) 
 (.call 16 63200 [(.hnd 6200), (.int .i64 (.lit 0)), (.var 58199)] 
 (.split (.var 63203) 
 (.call 24 77200 [(.hnd 21201), (.int .i64 (.var 57200)), (.int .i64 (.bin .add .i64 (.var 57200) (.lit 1))), (.var 64199)] 
 (.call 11 79200 [(.hnd 77200), (.agg ([(.int .i64 (.var 63200)), (.int .i64 (.var 63201)), (.hnd 63202)])), (.var 78199)] 
 (.split (.cmp .eql (.var 79200) (.lit 1)) 
 (.again 31 57200 [(57200, (.int .i64 (.bin .add .i64 (.var 57200) (.lit 1)))), (58199, (.var 80199))]) (leafG (.bool (.lit false)) .nil 80199)))) (leafG (.bool (.lit false)) .nil 64199))) 
 (.call 16 63200 [(.hnd 6200), (.int .i64 (.lit 0)), (.var 58199)] 
 (.split (.var 63203) (leafG (.bool (.lit false)) .nil 64199) 
 (.call 18 74200 [(.hnd 6200), (.var 64199)] 
 (.split (.cmp .eql (.var 74200) (.lit 0)) 
 (.call 2 78200 [(.var 75199)] (leafG (.bool (.var 78200)) .nil 79199)) (leafG (.bool (.lit false)) .nil 75199))))))))))))
theorem last31_30200 {G0 : List Ob} {n : Nat} {m : Int} {L : List AD} (hfin : ∀ {G' : List Ob}, KeepsRo G0 G' → ∀ (k : Nat) o, G0[k]? = some o → G'[k]? = some o) {ρ : Env} {G : List Ob} {N : NetM} {ri : List Lt}
    (xn : ρ.v 6200 = tokAt n 0) (hg : ρ.g 22199 = encG G) (hT : One G n N (ρ.v 21201) ri) (hF : Flat N.data m (ri.map Lt.data)) (hr : ri.length ≤ 100) (hK : KeepsRo G0 G) : treeSem lcS (lLQ G0 n m L) (KL G0) ρ t31_30200 := by
  refine sem_loop (Env.from_ _ 30200 ((Env.ofL [.int .i64 0]).ans (encG G))) (Env.from_ag _ _ _) (by show [Value.int .i64 0, encG G] = [Value.int .i64 0, ρ.g 22199]; rw [hg])
    ⟨G, N, ri, 0, rfl, rfl, Nat.zero_le _, hT, hF, hr, hK⟩ (by kernel_rfl) (fun ρ1 ρ2 h => ?_) (fun ρ' hag' hinv => ?_)
  · show ((1000 : Int) - ρ2.i 30200).toNat = ((1000 : Int) - ρ1.i 30200).toNat
    rw [(h 30200 (by decide)).1]
  obtain ⟨G', N', ri', k, hg', hi', hk, hT', hF', hr', hK'⟩ := hinv
  have hg' : ρ'.g 31199 = encG G' := hg'
  have hi' : ρ'.i 30200 = k := hi'
  have hT' : One G' n N' (ρ'.v 21201) ri' := hT'
  have xn' : ρ'.v 6200 = tokAt n 0 := (hag' 6200 (by decide)).2.2.trans xn
  have oi := hT'.di.one
  refine sem_step G' [ρ'.v 21201] (Env.ofL [.int .i64 ri'.length]) rfl (by show [oneOf (ρ'.v 21201), ρ'.g 31199] = _; rw [hg', oneOf_eq oi]; rfl) ⟨_, 3, _, _, rfl, hT'.rows, rfl⟩ ?_
  have hs := Step.dlv hT'.is_ 0
  obtain ⟨G2, hG2⟩ : ∃ g, g = dlvG G' n N' 0 := ⟨_, rfl⟩
  obtain ⟨N2, hN2⟩ : ∃ g, g = dlvN G' n N' 0 := ⟨_, rfl⟩
  obtain ⟨lt, hlt⟩ : ∃ g, g = dlvL G' N' 0 := ⟨_, rfl⟩
  have hdd : LDst G2 lt := by rw [hG2, hlt]; exact dlv_dst hT'.is_ 0
  have hld := dlvL_data G' N' 0
  have hnd := dlv_data G' n N' 0
  rw [← hlt] at hld
  rw [← hN2] at hnd
  rw [← hG2, ← hN2] at hs
  have hT2 := hT'.step hs
  have hK2 := hK'.trans (hs.keepsRo hT'.is_)
  have ol := hdd.one
  have hok := dlvOk_data N' 0
  refine sem_split (fun h => ?_) (fun h => ?_)
  · have h : ρ'.i 30200 < (ri'.length : Int) := of_decide_eq_true h
    have ka : k < ri'.length := by omega
    rw [List.drop_eq_getElem_cons ka, List.map_cons] at hF'
    obtain ⟨ho, hlk, hF2⟩ := hF'.first
    rw [ho, if_pos rfl, hlk] at hld
    rw [← hnd] at hF2
    rw [ho] at hok
    have hL2 : LOk G2 lt := ⟨hdd, by
      have := (hT'.li _ (List.getElem_mem ka)).2
      rw [show lt.bs = ri'[k].bs from congrArg LD.bs hld]
      exact this⟩
    have hw := wrap_up' (i := ρ'.i 30200) (by omega) (by omega)
    refine sem_step G' [tokAt n 0, .int .i64 0] ((Env.ofL (lt.cells ++ [Value.bool true])).ans (encG G2)) rfl (by show [oneOf (ρ'.v 6200), _, ρ'.g 31199] = _; rw [xn', hg']; rfl) ⟨n, N', 0, rfl, hT'.is_, by rw [← hlt]; rfl, by rw [← hlt]; rfl, by rw [← hlt]; rfl, by rw [hok]; rfl, by rw [← hG2]; rfl⟩ ?_
    refine sem_split (fun _ => ?_) (fun h => by cases h)
    refine sem_one (v := ρ'.v 21201) (k := k) hT2 ka hL2 hld ?_ (fun d => ?_) (fun _ _ => rfl) fun d hT3 hkp => ?_
    · show [oneOf (ρ'.v 21201), Value.int .i64 (ρ'.i 30200), Value.int .i64 (IntKind.i64.wrap (ρ'.i 30200 + 1)), encG G2] = _
      rw [oneOf_eq oi, hw, hi']
    · show [tok G2.length, Value.agg #[.int .i64 lt.f, .int .i64 lt.t, oneOf lt.v], _] = _
      rw [oneOf_eq ol]
      rfl
    · refine sem_again (Env.from_ _ 30200 ((Env.ofL [.int .i64 (ρ'.i 30200 + 1)]).ans (encG (viG G2 d k)))) (Env.from_ag _ _ _) ?_ ⟨viG G2 d k, N2, ri', k + 1, rfl, ?_, by omega, hT3, hF2, hr', hK2.trans fun q s c e hq => hkp q _ hq⟩ ?_
      · show [Value.int .i64 (ρ'.i 30200 + 1), encG (viG G2 d k)] = [Value.int .i64 (IntKind.i64.wrap (ρ'.i 30200 + 1)), encG (viG G2 d k)]
        rw [hw]
      · show ρ'.i 30200 + 1 = _
        rw [hi']; rfl
      · show ((1000 : Int) - (ρ'.i 30200 + 1)).toNat < ((1000 : Int) - ρ'.i 30200).toNat
        omega
  · have h : ¬ ρ'.i 30200 < (ri'.length : Int) := of_decide_eq_false h
    rw [List.drop_of_length_le (by omega), List.map_nil] at hF'
    have ho := hF'.none
    rw [ho] at hok
    refine sem_step G' [tokAt n 0, .int .i64 0] ((Env.ofL (lt.cells ++ [Value.bool false])).ans (encG G2)) rfl (by show [oneOf (ρ'.v 6200), _, ρ'.g 31199] = _; rw [xn', hg']; rfl) ⟨n, N', 0, rfl, hT'.is_, by rw [← hlt]; rfl, by rw [← hlt]; rfl, by rw [← hlt]; rfl, by rw [hok]; rfl, by rw [← hG2]; rfl⟩ ?_
    refine sem_split (fun h => by cases h) (fun _ => ?_)
    have hr0 : ((N2.row.length : Nat) : Int) = 0 := by
      rw [len_data, hnd]
      unfold ND.dlv
      rw [ho, if_neg (by simp), hF'.row]
      rfl
    refine sem_step G2 [tokAt n 0] ((Env.ofL [.int .i64 0]).ans (encG G2)) rfl (by show [oneOf (ρ'.v 6200), encG G2] = _; rw [xn']; rfl) ⟨n, N2, rfl, hT2.is_, by rw [hr0]; rfl, rfl⟩ ?_
    refine sem_split (fun _ => ?_) (fun h => by cases h)
    refine sem_step G2 [] ((Env.ofL [.bool true]).ans (encG (worksG G2))) rfl rfl ⟨rfl, rfl, rfl⟩ ?_
    exact sem_retL rfl rfl rfl (hfin (hK2.trans (works_ro _)))
theorem last31_57200 {G0 : List Ob} {n : Nat} {m : Int} {L : List AD} (hfin : ∀ {G' : List Ob}, KeepsRo G0 G' → ∀ (k : Nat) o, G0[k]? = some o → G'[k]? = some o) {ρ : Env} {G : List Ob} {N : NetM} {ri : List Lt}
    (xn : ρ.v 6200 = tokAt n 0) (hg : ρ.g 56199 = encG G) (hT : One G n N (ρ.v 21201) ri) (hF : Flat N.data m (ri.map Lt.data)) (hr : ri.length ≤ 100) (hK : KeepsRo G0 G) : treeSem lcS (lLQ G0 n m L) (KL G0) ρ t31_57200 := by
  refine sem_loop (Env.from_ _ 57200 ((Env.ofL [.int .i64 0]).ans (encG G))) (Env.from_ag _ _ _) (by show [Value.int .i64 0, encG G] = [Value.int .i64 0, ρ.g 56199]; rw [hg])
    ⟨G, N, ri, 0, rfl, rfl, Nat.zero_le _, hT, hF, hr, hK⟩ (by kernel_rfl) (fun ρ1 ρ2 h => ?_) (fun ρ' hag' hinv => ?_)
  · show ((1000 : Int) - ρ2.i 57200).toNat = ((1000 : Int) - ρ1.i 57200).toNat
    rw [(h 57200 (by decide)).1]
  obtain ⟨G', N', ri', k, hg', hi', hk, hT', hF', hr', hK'⟩ := hinv
  have hg' : ρ'.g 58199 = encG G' := hg'
  have hi' : ρ'.i 57200 = k := hi'
  have hT' : One G' n N' (ρ'.v 21201) ri' := hT'
  have xn' : ρ'.v 6200 = tokAt n 0 := (hag' 6200 (by decide)).2.2.trans xn
  have oi := hT'.di.one
  refine sem_step G' [ρ'.v 21201] (Env.ofL [.int .i64 ri'.length]) rfl (by show [oneOf (ρ'.v 21201), ρ'.g 58199] = _; rw [hg', oneOf_eq oi]; rfl) ⟨_, 3, _, _, rfl, hT'.rows, rfl⟩ ?_
  have hs := Step.dlv hT'.is_ 0
  obtain ⟨G2, hG2⟩ : ∃ g, g = dlvG G' n N' 0 := ⟨_, rfl⟩
  obtain ⟨N2, hN2⟩ : ∃ g, g = dlvN G' n N' 0 := ⟨_, rfl⟩
  obtain ⟨lt, hlt⟩ : ∃ g, g = dlvL G' N' 0 := ⟨_, rfl⟩
  have hdd : LDst G2 lt := by rw [hG2, hlt]; exact dlv_dst hT'.is_ 0
  have hld := dlvL_data G' N' 0
  have hnd := dlv_data G' n N' 0
  rw [← hlt] at hld
  rw [← hN2] at hnd
  rw [← hG2, ← hN2] at hs
  have hT2 := hT'.step hs
  have hK2 := hK'.trans (hs.keepsRo hT'.is_)
  have ol := hdd.one
  have hok := dlvOk_data N' 0
  refine sem_split (fun h => ?_) (fun h => ?_)
  · have h : ρ'.i 57200 < (ri'.length : Int) := of_decide_eq_true h
    have ka : k < ri'.length := by omega
    rw [List.drop_eq_getElem_cons ka, List.map_cons] at hF'
    obtain ⟨ho, hlk, hF2⟩ := hF'.first
    rw [ho, if_pos rfl, hlk] at hld
    rw [← hnd] at hF2
    rw [ho] at hok
    have hL2 : LOk G2 lt := ⟨hdd, by
      have := (hT'.li _ (List.getElem_mem ka)).2
      rw [show lt.bs = ri'[k].bs from congrArg LD.bs hld]
      exact this⟩
    have hw := wrap_up' (i := ρ'.i 57200) (by omega) (by omega)
    refine sem_step G' [tokAt n 0, .int .i64 0] ((Env.ofL (lt.cells ++ [Value.bool true])).ans (encG G2)) rfl (by show [oneOf (ρ'.v 6200), _, ρ'.g 58199] = _; rw [xn', hg']; rfl) ⟨n, N', 0, rfl, hT'.is_, by rw [← hlt]; rfl, by rw [← hlt]; rfl, by rw [← hlt]; rfl, by rw [hok]; rfl, by rw [← hG2]; rfl⟩ ?_
    refine sem_split (fun _ => ?_) (fun h => by cases h)
    refine sem_one (v := ρ'.v 21201) (k := k) hT2 ka hL2 hld ?_ (fun d => ?_) (fun _ _ => rfl) fun d hT3 hkp => ?_
    · show [oneOf (ρ'.v 21201), Value.int .i64 (ρ'.i 57200), Value.int .i64 (IntKind.i64.wrap (ρ'.i 57200 + 1)), encG G2] = _
      rw [oneOf_eq oi, hw, hi']
    · show [tok G2.length, Value.agg #[.int .i64 lt.f, .int .i64 lt.t, oneOf lt.v], _] = _
      rw [oneOf_eq ol]
      rfl
    · refine sem_again (Env.from_ _ 57200 ((Env.ofL [.int .i64 (ρ'.i 57200 + 1)]).ans (encG (viG G2 d k)))) (Env.from_ag _ _ _) ?_ ⟨viG G2 d k, N2, ri', k + 1, rfl, ?_, by omega, hT3, hF2, hr', hK2.trans fun q s c e hq => hkp q _ hq⟩ ?_
      · show [Value.int .i64 (ρ'.i 57200 + 1), encG (viG G2 d k)] = [Value.int .i64 (IntKind.i64.wrap (ρ'.i 57200 + 1)), encG (viG G2 d k)]
        rw [hw]
      · show ρ'.i 57200 + 1 = _
        rw [hi']; rfl
      · show ((1000 : Int) - (ρ'.i 57200 + 1)).toNat < ((1000 : Int) - ρ'.i 57200).toNat
        omega
  · have h : ¬ ρ'.i 57200 < (ri'.length : Int) := of_decide_eq_false h
    rw [List.drop_of_length_le (by omega), List.map_nil] at hF'
    have ho := hF'.none
    rw [ho] at hok
    refine sem_step G' [tokAt n 0, .int .i64 0] ((Env.ofL (lt.cells ++ [Value.bool false])).ans (encG G2)) rfl (by show [oneOf (ρ'.v 6200), _, ρ'.g 58199] = _; rw [xn', hg']; rfl) ⟨n, N', 0, rfl, hT'.is_, by rw [← hlt]; rfl, by rw [← hlt]; rfl, by rw [← hlt]; rfl, by rw [hok]; rfl, by rw [← hG2]; rfl⟩ ?_
    refine sem_split (fun h => by cases h) (fun _ => ?_)
    have hr0 : ((N2.row.length : Nat) : Int) = 0 := by
      rw [len_data, hnd]
      unfold ND.dlv
      rw [ho, if_neg (by simp), hF'.row]
      rfl
    refine sem_step G2 [tokAt n 0] ((Env.ofL [.int .i64 0]).ans (encG G2)) rfl (by show [oneOf (ρ'.v 6200), encG G2] = _; rw [xn']; rfl) ⟨n, N2, rfl, hT2.is_, by rw [hr0]; rfl, rfl⟩ ?_
    refine sem_split (fun _ => ?_) (fun h => by cases h)
    refine sem_step G2 [] ((Env.ofL [.bool true]).ans (encG (worksG G2))) rfl rfl ⟨rfl, rfl, rfl⟩ ?_
    exact sem_retL rfl rfl rfl (hfin (hK2.trans (works_ro _)))
/-- What a round of loop 19 leaves as it was. -/
structure Rnd (n : Nat) (a b : Int) (ρ' ρ : Env) : Prop where
  nt : ρ.v 6200 = tokAt n 0
  vi : ρ.v 21201 = ρ'.v 21201
  k : ρ.i 45200 = ρ'.i 45200
  a : ρ.i 35200 = a
  b : ρ.i 35201 = b
/-- The letter that was looked at. -/
structure Seen (ρ : Env) (G : List Ob) (lt : Lt) (x : LD) : Prop where
  f : ρ.i 91200 = lt.f
  t : ρ.i 91201 = lt.t
  v : ρ.v 91202 = lt.v
  g : ρ.g 92199 = encG G
  ok : LOk G lt
  d : lt.data = x
theorem look_cut {D : ND} {m : Int} {I : List LD} {a b : Int} (h : CutAt D m I a b) {k : Nat} (hk : k < I.length) : D.look k = I[k] := by
  unfold ND.look ND.there
  rw [h.row, if_pos (decide_eq_true ⟨Int.natCast_nonneg _, by omega⟩), Int.toNat_natCast, List.getD_eq_getElem?_getD, List.getElem?_eq_getElem hk]
  rfl
theorem again19 {G0 : List Ob} {n : Nat} {m : Int} {L : List AD} {a b : Int} {G : List Ob} {N : NetM} {ri : List Lt} {k : Nat} {ρ' ρ : Env} {g : Nat} (hR : Rnd n a b ρ' ρ) (hk' : ρ'.i 45200 = k) (hk : k < ri.length) (hr : ri.length ≤ 100)
    (hg : ρ.g g = encG G) (hT : One G n N (ρ'.v 21201) ri) (hC : CutAt N.data m (ri.map Lt.data) a b) (hK : KeepsRo G0 G) :
    treeSem lcS (lLQ G0 n m L) (KL G0) ρ (.again 19 45200 [(45200, (.int .i64 (.bin .add .i64 (.var 45200) (.lit 1)))), (46199, (.var g))]) := by
  have hk1 : ρ.i 45200 = k := hR.k.trans hk'
  have hw := wrap_up' (i := ρ.i 45200) (by omega) (by omega)
  rw [← hR.vi] at hT
  have ha := hR.a
  have hb := hR.b
  clear hR hk'
  refine sem_again (Env.from_ _ 45200 ((Env.ofL [.int .i64 (ρ.i 45200 + 1)]).ans (encG G))) (Env.from_ag _ _ _) ?_ ⟨a, b, ha, hb, G, N, ri, k + 1, rfl, ?_, by omega, hT, hC, hr, hK⟩ ?_
  · have e2 : [Value.int .i64 (ρ.i 45200 + 1), encG G] = [Value.int .i64 (IntKind.i64.wrap (ρ.i 45200 + 1)), ρ.g g] := by rw [hg, hw]
    have e3 : Bound ρ (ρ.from_ 45200 ((Env.ofL [Value.int .i64 (ρ.i 45200 + 1)]).ans (encG G))) [(45200, .int .i64 (.bin .add .i64 (.var 45200) (.lit 1))), (46199, .var g)] = ([Value.int .i64 (ρ.i 45200 + 1), encG G] = [Value.int .i64 (IntKind.i64.wrap (ρ.i 45200 + 1)), ρ.g g]) := by kernel_rfl
    rw [e3]
    exact e2
  · show ρ.i 45200 + 1 = _
    rw [hk1]; rfl
  · show ((1000 : Int) - (ρ.i 45200 + 1)).toNat < ((1000 : Int) - ρ.i 45200).toNat
    omega
theorem not19 {G0 : List Ob} {n : Nat} {m : Int} {L : List AD} {a b : Int} {G : List Ob} {N : NetM} {ri : List Lt} {k : Nat} {ρ' ρ : Env} {lt : Lt} (hR : Rnd n a b ρ' ρ) (hk' : ρ'.i 45200 = k) (hk : k < ri.length) (hr : ri.length ≤ 100)
    (hS : Seen ρ G lt ri[k].data) (hT : One G n N (ρ'.v 21201) ri) (hC : CutAt N.data m (ri.map Lt.data) a b) (hK : KeepsRo G0 G) : treeSem lcS (lLQ G0 n m L) (KL G0) ρ lNot := by
  have hw := wrap_up' (i := ρ'.i 45200) (by omega) (by omega)
  have oi := hT.di.one
  have ol := hS.ok.1.one
  refine sem_one (v := ρ'.v 21201) (k := k) hT hk hS.ok hS.d ?_ (fun d => ?_) (fun _ _ => rfl) fun d hT3 hkp => ?_
  · show [oneOf (ρ.v 21201), Value.int .i64 (ρ.i 45200), Value.int .i64 (IntKind.i64.wrap (ρ.i 45200 + 1)), ρ.g 92199] = _
    rw [hR.vi, hR.k, hS.g, oneOf_eq oi, hw, hk']
  · show [tok G.length, Value.agg #[.int .i64 (ρ.i 91200), .int .i64 (ρ.i 91201), oneOf (ρ.v 91202)], _] = _
    rw [hS.f, hS.t, hS.v, oneOf_eq ol]
    rfl
  · exact again19 ⟨hR.nt, hR.vi, hR.k, hR.a, hR.b⟩ hk' hk hr rfl hT3 hC (hK.trans fun q s c e hq => hkp q _ hq)
theorem same19 {G0 : List Ob} {n : Nat} {m : Int} {L : List AD} {a b : Int} {G : List Ob} {N : NetM} {ri : List Lt} {k : Nat} {ρ' ρ : Env} {lt : Lt} (hR : Rnd n a b ρ' ρ) (hk' : ρ'.i 45200 = k) (hk : k < ri.length) (hr : ri.length ≤ 100)
    (hS : Seen ρ G lt ri[k].data) (hw : way ri[k].f ri[k].t = way a b) (hT : One G n N (ρ'.v 21201) ri) (hC : CutAt N.data m (ri.map Lt.data) a b) (hK : KeepsRo G0 G) : treeSem lcS (lLQ G0 n m L) (KL G0) ρ lSame := by
  have hwr := wrap_up' (i := ρ'.i 45200) (by omega) (by omega)
  have oi := hT.di.one
  have hs := Step.dlv hT.is_ k
  have hlk : N.data.look k = ri[k].data := by rw [look_cut hC (k := k) (by rw [List.length_map]; exact hk), List.getElem_map]
  have hno : N.data.dlvOk k = false := hC.stuck (by rw [hlk]; exact hw)
  have hok := dlvOk_data N k
  rw [hno] at hok
  obtain ⟨G2, hG2⟩ : ∃ g, g = dlvG G n N k := ⟨_, rfl⟩
  obtain ⟨N2, hN2⟩ : ∃ g, g = dlvN G n N k := ⟨_, rfl⟩
  obtain ⟨l2, hl2⟩ : ∃ g, g = dlvL G N k := ⟨_, rfl⟩
  have hnd : N2 = N := by rw [hN2]; unfold dlvN; rw [hok, if_neg (by simp)]
  have hL2 : LOk G2 lt := ⟨by rw [hG2]; exact hs.dst hT.is_ hS.ok.1, hS.ok.2⟩
  rw [← hG2, ← hN2] at hs
  have hT2 := hT.step hs
  have hK2 := hK.trans (hs.keepsRo hT.is_)
  have ol := hL2.1.one
  rw [hnd] at hT2
  refine sem_step G [tokAt n 0, .int .i64 k] ((Env.ofL (l2.cells ++ [Value.bool false])).ans (encG G2)) rfl (by show [oneOf (ρ.v 6200), Value.int .i64 (ρ.i 45200), ρ.g 92199] = _; rw [hR.nt, hR.k, hS.g, hk']; rfl) ⟨n, N, k, rfl, hT.is_, by rw [← hl2]; rfl, by rw [← hl2]; rfl, by rw [← hl2]; rfl, by rw [hok]; rfl, by rw [← hG2]; rfl⟩ ?_
  refine sem_split (fun h => by cases h) (fun _ => ?_)
  have hlen : N.row.length = ri.length := by rw [len_data, hC.row, List.length_map]
  refine sem_step G2 [tokAt n 0] ((Env.ofL [.int .i64 ri.length]).ans (encG G2)) rfl (by show [oneOf (ρ.v 6200), encG G2] = _; rw [hR.nt]; rfl) ⟨n, N, rfl, hT2.is_, by rw [hlen]; rfl, rfl⟩ ?_
  refine sem_step G2 [ρ'.v 21201] (Env.ofL [.int .i64 ri.length]) rfl (by show [oneOf (ρ.v 21201), encG G2] = _; rw [hR.vi, oneOf_eq oi]; rfl) ⟨_, 3, _, _, rfl, hT2.rows, rfl⟩ ?_
  refine sem_split (fun _ => ?_) (fun h => absurd (show (((ri.length : Nat) : Int) == ((ri.length : Nat) : Int)) = false from h) (by simp))
  refine sem_one (v := ρ'.v 21201) (k := k) hT2 hk hL2 hS.d ?_ (fun d => ?_) (fun _ _ => rfl) fun d hT3 hkp => ?_
  · show [oneOf (ρ.v 21201), Value.int .i64 (ρ.i 45200), Value.int .i64 (IntKind.i64.wrap (ρ.i 45200 + 1)), encG G2] = _
    rw [hR.vi, hR.k, oneOf_eq oi, hwr, hk']
  · show [tok G2.length, Value.agg #[.int .i64 (ρ.i 91200), .int .i64 (ρ.i 91201), oneOf (ρ.v 91202)], _] = _
    rw [hS.f, hS.t, hS.v, oneOf_eq ol]
    rfl
  · exact again19 ⟨hR.nt, hR.vi, hR.k, hR.a, hR.b⟩ hk' hk hr rfl hT3 hC (hK2.trans fun q s c e hq => hkp q _ hq)
/-- Look at the letter. -/
theorem look19 {G0 : List Ob} {n : Nat} {m : Int} {LQ : LoopS} {K : Env → Ex → St → Prop} {a b : Int} {G : List Ob} {N : NetM} {ri : List Lt} {k : Nat} {ρ' ρ : Env} {t : Tree} (hR : Rnd n a b ρ' ρ) (hk' : ρ'.i 45200 = k) (hk : k < ri.length)
    (hg : ρ.g 46199 = encG G) (hT : One G n N (ρ'.v 21201) ri) (hC : CutAt N.data m (ri.map Lt.data) a b) (hK : KeepsRo G0 G)
    (h : ∀ G2 lt ρ2, Rnd n a b ρ' ρ2 → Seen ρ2 G2 lt ri[k].data → One G2 n N (ρ'.v 21201) ri → KeepsRo G0 G2 → (∀ j, j < 91200 → ρ2.i j = ρ.i j) → treeSem lcS LQ K ρ2 t) :
    treeSem lcS LQ K ρ (.call 19 91200 [(.hnd 6200), (.int .i64 (.var 45200)), (.var 46199)] t) := by
  have hs := Step.look hT.is_ k
  have hlk : N.data.look k = ri[k].data := by rw [look_cut hC (k := k) (by rw [List.length_map]; exact hk), List.getElem_map]
  obtain ⟨Gl, hGl⟩ : ∃ g, g = lookG G N k := ⟨_, rfl⟩
  obtain ⟨lt, hlt⟩ : ∃ l, l = lookL G N k := ⟨_, rfl⟩
  have hLl : LOk Gl lt := by rw [hGl, hlt]; exact ⟨look_dst hT.is_ _, lookL_len hT.is_ _⟩
  rw [← hGl] at hs
  have hld : lt.data = ri[k].data := by rw [hlt, look_data, hlk]
  refine sem_step G [tokAt n 0, .int .i64 k] ((Env.ofL (lt.cells ++ [Value.bool (lookB N k)])).ans (encG Gl)) rfl (by show [oneOf (ρ.v 6200), Value.int .i64 (ρ.i 45200), ρ.g 46199] = _; rw [hR.nt, hR.k, hg, hk']; rfl) ⟨n, N, _, rfl, hT.is_, by rw [← hlt]; rfl, by rw [← hlt]; rfl, by rw [← hlt]; rfl, rfl, by rw [← hGl]; rfl⟩ ?_
  exact h Gl lt _ ⟨hR.nt, hR.vi, hR.k, hR.a, hR.b⟩ ⟨rfl, rfl, rfl, rfl, hLl, hld⟩ (hT.step hs) (hK.trans (hs.keepsRo hT.is_)) fun j hj => (Env.from_ag _ _ _ j hj).1
theorem last19 {G0 : List Ob} {n : Nat} {m : Int} {L : List AD} (hfin : ∀ {G' : List Ob}, KeepsRo G0 G' → ∀ (k : Nat) o, G0[k]? = some o → G'[k]? = some o) {ρ : Env} {G : List Ob} {N : NetM} {ri : List Lt} {a b : Int}
    (xn : ρ.v 6200 = tokAt n 0) (xa : ρ.i 35200 = a) (xb : ρ.i 35201 = b) (hg : ρ.g 44199 = encG G) (hT : One G n N (ρ.v 21201) ri) (hC : CutAt N.data m (ri.map Lt.data) a b) (hwb : wayB m a b = true) (hr : ri.length ≤ 100) (hK : KeepsRo G0 G) :
    treeSem lcS (lLQ G0 n m L) (KL G0) ρ t19 := by
  refine sem_loop (Env.from_ _ 45200 ((Env.ofL [.int .i64 0]).ans (encG G))) (Env.from_ag _ _ _) (by show [Value.int .i64 0, encG G] = [Value.int .i64 0, ρ.g 44199]; rw [hg])
    ⟨a, b, xa, xb, G, N, ri, 0, rfl, rfl, Nat.zero_le _, hT, hC, hr, hK⟩ (by kernel_rfl) (fun ρ1 ρ2 h => ?_) (fun ρ' hag' hinv => ?_)
  · show ((1000 : Int) - ρ2.i 45200).toNat = ((1000 : Int) - ρ1.i 45200).toNat
    rw [(h 45200 (by decide)).1]
  obtain ⟨a', b', ha', hb', G', N', ri', k, hg', hi', hk, hT', hC', hr', hK'⟩ := hinv
  have xa' : ρ'.i 35200 = a := (hag' 35200 (by decide)).1.trans xa
  have xb' : ρ'.i 35201 = b := (hag' 35201 (by decide)).1.trans xb
  rw [xa'] at ha'
  rw [xb'] at hb'
  subst ha' hb'
  clear hT hC hr hK hg
  have hg' : ρ'.g 46199 = encG G' := hg'
  have hi' : ρ'.i 45200 = k := hi'
  have hT' : One G' n N' (ρ'.v 21201) ri' := hT'
  have xn' : ρ'.v 6200 = tokAt n 0 := (hag' 6200 (by decide)).2.2.trans xn
  have oi := hT'.di.one
  refine sem_step G' [ρ'.v 21201] (Env.ofL [.int .i64 ri'.length]) rfl (by show [oneOf (ρ'.v 21201), ρ'.g 46199] = _; rw [hg', oneOf_eq oi]; rfl) ⟨_, 3, _, _, rfl, hT'.rows, rfl⟩ ?_
  refine sem_split (fun h => ?_) (fun h => ?_)
  · have h : ρ'.i 45200 < (ri'.length : Int) := of_decide_eq_true h
    have ka : k < ri'.length := by omega
    obtain ⟨m', p, all, q1, q2, q3, q4⟩ := sl_at hT'.rows (by decide) (i := ρ'.i 45200) (by omega) h
    have c0 := q4 0 (by decide)
    have c1 := q4 1 (by decide)
    rw [hi', Int.toNat_natCast, rowC_at ka (by decide)] at c0 c1
    have nidx : ∀ ρ2 : Env, ρ2.v 21201 = ρ'.v 21201 → ρ2.i 45200 = ρ'.i 45200 → ρ2.g 46199 = ρ'.g 46199 → E.nams ρ2 lay0 [.hnd 21201, .int .i64 (.var 45200), .var 46199] = [ρ'.v 21201, .int .i64 (ρ'.i 45200)] ++ [encG G'] := fun ρ2 e1 e2 e3 => by
      show [oneOf (ρ2.v 21201), Value.int .i64 (ρ2.i 45200), ρ2.g 46199] = _
      rw [e1, e2, e3, hg', oneOf_eq oi]
      rfl
    have look : ∀ {ρ2 : Env} {t : Tree}, Rnd n a b ρ' ρ2 → ρ2.g 46199 = ρ'.g 46199 →
        (∀ G2 lt ρ3, Rnd n a b ρ' ρ3 → Seen ρ3 G2 lt ri'[k].data → One G2 n N' (ρ'.v 21201) ri' → KeepsRo G0 G2 → (∀ j, j < 91200 → ρ3.i j = ρ2.i j) → treeSem lcS (lLQ G0 n m L) (KL G0) ρ3 t) →
        treeSem lcS (lLQ G0 n m L) (KL G0) ρ2 (.call 19 91200 [(.hnd 6200), (.int .i64 (.var 45200)), (.var 46199)] t) := fun hR e h => look19 hR hi' ka (e.trans hg') hT' hC' hK' h
    by_cases f1 : ri'[k].f = a
    · by_cases t1 : ri'[k].t = b
      · refine sem_or1 (sem_or1 ?_)
        refine sem_step G' [ρ'.v 21201, .int .i64 (ρ'.i 45200)] _ rfl (nidx _ rfl rfl rfl) q1 ?_
        refine sem_step G' [tokAt m' p] (Env.ofL [.int .i64 ri'[k].f]) rfl (by show [tokAt m' (p + 0), ρ'.g 46199] = _; rw [hg']; rfl) ⟨m', p, all, _, rfl, q2, c0, rfl⟩ ?_
        refine sem_step G' [ρ'.v 21201, .int .i64 (ρ'.i 45200)] _ rfl (nidx _ rfl rfl rfl) q1 ?_
        refine sem_step G' [tokAt m' (p + 1)] (Env.ofL [.int .i64 ri'[k].t]) rfl (by show [tokAt m' (p + 1), ρ'.g 46199] = _; rw [hg']; rfl) ⟨m', p + 1, all, _, rfl, q2, c1, rfl⟩ ?_
        refine sem_need (by show (ri'[k].t == ρ'.i 35201) = true; rw [xb', t1]; simp) ?_
        refine sem_need (by show (ri'[k].f == ρ'.i 35200) = true; rw [xa', f1]; simp) ?_
        refine look ⟨xn', rfl, rfl, xa', xb'⟩ rfl fun G2 lt ρ3 hR hS hT2 hK2 _ => ?_
        exact same19 hR hi' ka hr' hS (by rw [f1, t1]) hT2 hC' hK2
      · by_cases f2 : ri'[k].f = b
        · refine sem_or1 (sem_or2 (sem_or1 ?_))
          refine sem_step G' [ρ'.v 21201, .int .i64 (ρ'.i 45200)] _ rfl (nidx _ rfl rfl rfl) q1 ?_
          refine sem_step G' [tokAt m' p] (Env.ofL [.int .i64 ri'[k].f]) rfl (by show [tokAt m' (p + 0), ρ'.g 46199] = _; rw [hg']; rfl) ⟨m', p, all, _, rfl, q2, c0, rfl⟩ ?_
          refine sem_step G' [ρ'.v 21201, .int .i64 (ρ'.i 45200)] _ rfl (nidx _ rfl rfl rfl) q1 ?_
          refine sem_step G' [tokAt m' (p + 1)] (Env.ofL [.int .i64 ri'[k].t]) rfl (by show [tokAt m' (p + 1), ρ'.g 46199] = _; rw [hg']; rfl) ⟨m', p + 1, all, _, rfl, q2, c1, rfl⟩ ?_
          refine sem_step G' [ρ'.v 21201, .int .i64 (ρ'.i 45200)] _ rfl (nidx _ rfl rfl rfl) q1 ?_
          refine sem_step G' [tokAt m' p] (Env.ofL [.int .i64 ri'[k].f]) rfl (by show [tokAt m' (p + 0), ρ'.g 46199] = _; rw [hg']; rfl) ⟨m', p, all, _, rfl, q2, c0, rfl⟩ ?_
          refine sem_step G' [ρ'.v 21201, .int .i64 (ρ'.i 45200)] _ rfl (nidx _ rfl rfl rfl) q1 ?_
          refine sem_step G' [tokAt m' (p + 1)] (Env.ofL [.int .i64 ri'[k].t]) rfl (by show [tokAt m' (p + 1), ρ'.g 46199] = _; rw [hg']; rfl) ⟨m', p + 1, all, _, rfl, q2, c1, rfl⟩ ?_
          refine sem_need (by show (ri'[k].f == ρ'.i 35201) = true; rw [xb', f2]; simp) ?_
          refine sem_need (by show (!(ri'[k].t == ρ'.i 35201)) = true; rw [xb']; simp [t1]) ?_
          refine sem_need (by show (ri'[k].f == ρ'.i 35200) = true; rw [xa', f1]; simp) ?_
          refine look ⟨xn', rfl, rfl, xa', xb'⟩ rfl fun G2 lt ρ3 hR hS hT2 hK2 hj => ?_
          refine sem_split (fun h => ?_) (fun h => ?_)
          · have h : (ρ3.i 82200 == ρ3.i 35200) = true := h
            rw [hj 82200 (by decide), hR.a] at h
            have h : (ri'[k].t == a) = true := h
            have h : ri'[k].t = a := by simpa using h
            exact same19 hR hi' ka hr' hS (by rw [f2, h]; exact way_swap _ _) hT2 hC' hK2
          · exact not19 hR hi' ka hr' hS hT2 hC' hK2
        · refine sem_or1 (sem_or2 (sem_or2 ?_))
          refine sem_step G' [ρ'.v 21201, .int .i64 (ρ'.i 45200)] _ rfl (nidx _ rfl rfl rfl) q1 ?_
          refine sem_step G' [tokAt m' p] (Env.ofL [.int .i64 ri'[k].f]) rfl (by show [tokAt m' (p + 0), ρ'.g 46199] = _; rw [hg']; rfl) ⟨m', p, all, _, rfl, q2, c0, rfl⟩ ?_
          refine sem_step G' [ρ'.v 21201, .int .i64 (ρ'.i 45200)] _ rfl (nidx _ rfl rfl rfl) q1 ?_
          refine sem_step G' [tokAt m' (p + 1)] (Env.ofL [.int .i64 ri'[k].t]) rfl (by show [tokAt m' (p + 1), ρ'.g 46199] = _; rw [hg']; rfl) ⟨m', p + 1, all, _, rfl, q2, c1, rfl⟩ ?_
          refine sem_step G' [ρ'.v 21201, .int .i64 (ρ'.i 45200)] _ rfl (nidx _ rfl rfl rfl) q1 ?_
          refine sem_step G' [tokAt m' p] (Env.ofL [.int .i64 ri'[k].f]) rfl (by show [tokAt m' (p + 0), ρ'.g 46199] = _; rw [hg']; rfl) ⟨m', p, all, _, rfl, q2, c0, rfl⟩ ?_
          refine sem_need (by show (!(ri'[k].f == ρ'.i 35201)) = true; rw [xb']; simp [f2]) ?_
          refine sem_need (by show (!(ri'[k].t == ρ'.i 35201)) = true; rw [xb']; simp [t1]) ?_
          refine sem_need (by show (ri'[k].f == ρ'.i 35200) = true; rw [xa', f1]; simp) ?_
          refine look ⟨xn', rfl, rfl, xa', xb'⟩ rfl fun G2 lt ρ3 hR hS hT2 hK2 hj => ?_
          exact not19 hR hi' ka hr' hS hT2 hC' hK2
    · by_cases f2 : ri'[k].f = b
      · refine sem_or2 (sem_or1 ?_)
        refine sem_step G' [ρ'.v 21201, .int .i64 (ρ'.i 45200)] _ rfl (nidx _ rfl rfl rfl) q1 ?_
        refine sem_step G' [tokAt m' p] (Env.ofL [.int .i64 ri'[k].f]) rfl (by show [tokAt m' (p + 0), ρ'.g 46199] = _; rw [hg']; rfl) ⟨m', p, all, _, rfl, q2, c0, rfl⟩ ?_
        refine sem_step G' [ρ'.v 21201, .int .i64 (ρ'.i 45200)] _ rfl (nidx _ rfl rfl rfl) q1 ?_
        refine sem_step G' [tokAt m' p] (Env.ofL [.int .i64 ri'[k].f]) rfl (by show [tokAt m' (p + 0), ρ'.g 46199] = _; rw [hg']; rfl) ⟨m', p, all, _, rfl, q2, c0, rfl⟩ ?_
        refine sem_step G' [ρ'.v 21201, .int .i64 (ρ'.i 45200)] _ rfl (nidx _ rfl rfl rfl) q1 ?_
        refine sem_step G' [tokAt m' (p + 1)] (Env.ofL [.int .i64 ri'[k].t]) rfl (by show [tokAt m' (p + 1), ρ'.g 46199] = _; rw [hg']; rfl) ⟨m', p + 1, all, _, rfl, q2, c1, rfl⟩ ?_
        refine sem_need (by show (ri'[k].f == ρ'.i 35201) = true; rw [xb', f2]; simp) ?_
        refine sem_need (by show (!(ri'[k].f == ρ'.i 35200)) = true; rw [xa']; simp [f1]) ?_
        refine look ⟨xn', rfl, rfl, xa', xb'⟩ rfl fun G2 lt ρ3 hR hS hT2 hK2 hj => ?_
        refine sem_split (fun h => ?_) (fun h => ?_)
        · have h : (ρ3.i 82200 == ρ3.i 35200) = true := h
          rw [hj 82200 (by decide), hR.a] at h
          have h : (ri'[k].t == a) = true := h
          have h : ri'[k].t = a := by simpa using h
          exact same19 hR hi' ka hr' hS (by rw [f2, h]; exact way_swap _ _) hT2 hC' hK2
        · exact not19 hR hi' ka hr' hS hT2 hC' hK2
      · refine sem_or2 (sem_or2 ?_)
        refine sem_step G' [ρ'.v 21201, .int .i64 (ρ'.i 45200)] _ rfl (nidx _ rfl rfl rfl) q1 ?_
        refine sem_step G' [tokAt m' p] (Env.ofL [.int .i64 ri'[k].f]) rfl (by show [tokAt m' (p + 0), ρ'.g 46199] = _; rw [hg']; rfl) ⟨m', p, all, _, rfl, q2, c0, rfl⟩ ?_
        refine sem_step G' [ρ'.v 21201, .int .i64 (ρ'.i 45200)] _ rfl (nidx _ rfl rfl rfl) q1 ?_
        refine sem_step G' [tokAt m' p] (Env.ofL [.int .i64 ri'[k].f]) rfl (by show [tokAt m' (p + 0), ρ'.g 46199] = _; rw [hg']; rfl) ⟨m', p, all, _, rfl, q2, c0, rfl⟩ ?_
        refine sem_need (by show (!(ri'[k].f == ρ'.i 35201)) = true; rw [xb']; simp [f2]) ?_
        refine sem_need (by show (!(ri'[k].f == ρ'.i 35200)) = true; rw [xa']; simp [f1]) ?_
        refine look ⟨xn', rfl, rfl, xa', xb'⟩ rfl fun G2 lt ρ3 hR hS hT2 hK2 hj => ?_
        exact not19 hR hi' ka hr' hS hT2 hC' hK2
  · have h : ¬ ρ'.i 45200 < (ri'.length : Int) := of_decide_eq_false h
    have hs := Step.cut hT'.is_ a b false
    have hwn : wayB N'.nodes a b = true := by rw [nodes_data, hC'.nodes]; exact hwb
    refine sem_step G' [tokAt n 0, .int .i64 a, .int .i64 b, .bool false] ((Env.ofL [.bool true]).ans (encG (cutG G' N' a b false))) rfl (by show [oneOf (ρ'.v 6200), Value.int .i64 (ρ'.i 35200), Value.int .i64 (ρ'.i 35201), Value.bool false, ρ'.g 46199] = _; rw [xn', xa', xb', hg']; rfl) ⟨n, N', a, b, false, rfl, hT'.is_, by rw [hwn]; rfl, rfl⟩ ?_
    have hF : Flat (cutN N' a b false).data m (ri'.map Lt.data) := by rw [cut_data]; exact hC'.heal hwb rfl
    exact last31_57200 hfin xn' rfl (hT'.step hs) hF hr' (hK'.trans (hs.keepsRo hT'.is_))
end Go.Proofs.Yteklnfajpignoaa
