/- What is proved: the contracts that NetLast calls, the tree of its run; what a row's part holds. No condition. -/
import Derived.Test.YteklnfajpignoaaL1
import Derived.Test.YteklnfajpignoaaSzI
namespace Go.Proofs.Yteklnfajpignoaa
open Sx hiding Sl
set_option maxRecDepth 100000

def lc : List Con := [newC, greatC, worksC, lenC 22, idxC 22, loadC 3 (.int .i64 (.var 0)), loadC 30 (.hnd 0), sendC, copyC, appC 51, bsC 51 1, alikeC, lenC 51, idxC 51, loadC 42 (.agg (letE 0)), cutC, dlvC, losC, waitsC, lookC, eqC 23, neC 23, pickC, lenC 30, viC 51]
def lcS : List ConS := [conR newR, conR greatR, conR worksR, conR lenR, conR (idxR 4), conR (loadR (.int .i64 (.var 0))), conR (loadR (.hnd 0)), conR sendR, conR copyR, conR (appR 3 40), conR (bsR 3 1), conR alikeR, conR lenR, conR (idxR 3), conR (loadRowR 3 (.agg (letE 0))), conR cutR, conR dlvR, conR losR, conR waitsR, conR lookR, conR (CmpR NilPtr false), conR (CmpR NilPtr true), pickS, conR lenR, conR (viR 3)]
theorem lc_holds : Cons Try.prog lc lcS :=
  ⟨new_holds, great_holds, works_holds, len_holds Try.underlying22, idx_holds Try.underlying22 (by kernel_rfl), load_holds (by kernel_rfl) rfl, load_holds (by kernel_rfl) rfl, send_holds, copy_holds,
    app_ok (z := .agg #[.int .i64 0, .int .i64 0, .slice none 0 0]) Try.underlying51 (by kernel_rfl) rfl, bs_ok (b := 40) (z := .agg #[.int .i64 0, .int .i64 0, .slice none 0 0]) Try.underlying51 (by kernel_rfl) rfl,
    alike_holds, len_holds Try.underlying51, idx_holds Try.underlying51 (by kernel_rfl), loadRow_holds (by kernel_rfl) (by kernel_rfl) rfl, cut_holds, dlv_holds, los_holds, waits_holds, look_holds, (ptr_holds Try.underlying23).1, (ptr_holds Try.underlying23).2, pick_holds, len_holds Try.underlying30, view_holds Try.underlying51 (by kernel_rfl), trivial⟩
def lLT : List (Nat × LS) := [(7, ⟨[(9, fun b => .int .i64 (.var b)), (8, fun b => .hnd (b + 1))], [], [], true⟩), (19, ⟨[(13, fun b => .int .i64 (.var b))], [], [], true⟩), (31, ⟨[(19, fun b => .int .i64 (.var b))], [], [], true⟩)]
/-- A part of one letter. -/
def viG (G : List Ob) (d k : Nat) : List Ob := G ++ [.view d 3 (k * 3) 1]
theorem vi_sl {G : List Ob} {d k : Nat} {r : List Lt} (hd : G[d]? = some (.row 3 r.length (rowC r))) (hk : k < r.length) : Sx.Sl (viG G d k) (tok G.length) 3 [r[k]].length (rowC [r[k]]) := by
  have hdl := (List.getElem?_eq_some_iff.1 hd).1
  have hg : (viG G d k)[G.length]? = some (.view d 3 (k * 3) 1) := by unfold viG; rw [List.getElem?_append_right (Nat.le_refl _), Nat.sub_self]; rfl
  have hd' : (viG G d k)[d]? = some (.row 3 r.length (rowC r)) := by unfold viG; rw [List.getElem?_append_left hdl]; exact hd
  refine .inr ⟨d, k * 3, _, ⟨G.length, rfl, .inr ⟨hg, hdl⟩⟩, cells_row hd', ?_, ?_⟩
  · rw [rowC_length]; show k * 3 + 1 * 3 ≤ _; omega
  · have h := getElem_flat (r := r) (List.getElem?_eq_getElem hk)
    show (r[k].cells ++ []) = List.take 3 _
    rw [h, List.append_nil]
theorem vi_viR {G : List Ob} {d k : Nat} {r : List Lt} (hd : G[d]? = some (.row 3 r.length (rowC r))) (hk : k < r.length) {i : Int} (hi : i = k) : viR 3 G [tok d, .int .i64 i, .int .i64 (i + 1)] ((Env.ofL [tok G.length]).ans (encG (viG G d k))) := by
  subst hi
  refine ⟨d, k, k + 1, r.length, rowC r, rfl, hd, by omega, by omega, by omega, rfl, ?_⟩
  show encG (viG G d k) = _
  unfold viG
  rw [Int.toNat_natCast, show ((k : Int) + 1).toNat - k = 1 by omega]
theorem vi_keeps (G : List Ob) (d k : Nat) : Keeps G (viG G d k) := fun n o ho => by
  have := (List.getElem?_eq_some_iff.1 ho).1
  unfold viG
  rw [List.getElem?_append_left this]
  exact ho
def treeLast : Tree :=
 (.call 22 2200 [(.int .i64 (.var 0)), (.int .i64 (.lit 31))]
 (.call 0 6200 [(.int .i64 (.bin .add .i64 (.lit 2) (.var 2200))), (.var 199)]
 (.call 20 9200 [(.hnd 6200), (.lit (.pointer none)), (.var 7199)]
 (.split (.var 9200)
 (.call 21 20200 [(.hnd 6200), (.lit (.pointer none)), (.var 7199)]
 (.split (.var 20200)
 (.call 2 22200 [(.var 7199)]
 (leafG (.bool (.var 22200)) .nil 23199))
 (leafG (.bool (.lit false)) .nil 7199)))
 (.call 3 12200 [(.hnd 1), (.var 7199)]
 (.split (.cmp .gtr (.var 12200) (.lit 100))
 (.call 21 20200 [(.hnd 6200), (.lit (.pointer none)), (.var 7199)]
 (.split (.var 20200)
 (.call 2 22200 [(.var 7199)]
 (leafG (.bool (.var 22200)) .nil 23199))
 (leafG (.bool (.lit false)) .nil 7199)))
 (.call 1 17200 [(.hnd 1), (.var 7199)]
 (.split (.var 17200)
 (.call 21 20200 [(.hnd 6200), (.lit (.pointer none)), (.var 18199)]
 (.split (.var 20200)
 (.call 2 22200 [(.var 18199)]
 (leafG (.bool (.var 22200)) .nil 23199))
 (leafG (.bool (.lit false)) .nil 18199)))
 (.loop 7 21200 [(21200, (.int .i64 (.lit 0))), (21201, (.lit (.slice none 0 0))), (22199, (.var 18199))]
 (.call 3 24200 [(.hnd 1), (.var 22199)]
 (.split (.cmp .lss (.var 21200) (.var 24200))
 (.call 4 28200 [(.hnd 1), (.int .i64 (.var 21200)), (.var 22199)]
 (.call 5 30200 [(.pla (.var 28200) (.var 28201) 1), (.var 22199)]
 (.call 22 32200 [(.int .i64 (.var 30200)), (.int .i64 (.bin .add .i64 (.lit 2) (.var 2200)))]
 (.call 4 37200 [(.hnd 1), (.int .i64 (.var 21200)), (.var 22199)]
 (.call 5 39200 [(.pla (.var 37200) (.var 37201) 2), (.var 22199)]
 (.call 22 41200 [(.int .i64 (.var 39200)), (.int .i64 (.bin .add .i64 (.lit 2) (.var 2200)))]
 (.call 4 49200 [(.hnd 1), (.int .i64 (.var 21200)), (.var 22199)]
 (.call 6 51200 [(.pla (.var 49200) (.var 49201) 3), (.var 22199)]
 (.call 7 52200 [(.hnd 6200), (.int .i64 (.bin .add .i64 (.lit 1) (.var 32200))), (.int .i64 (.bin .add .i64 (.lit 1) (.var 41200))), (.hnd 51200), (.var 22199)]
 (.split (.cmp .eql (.bin .add .i64 (.lit 1) (.var 32200)) (.bin .add .i64 (.lit 1) (.var 41200)))
 (.split (.var 52200)
 (leafG (.bool (.lit false)) .nil 53199)
 (.again 7 21200 [(21200, (.int .i64 (.bin .add .i64 (.var 21200) (.lit 1)))), (21201, (.hnd 21201)), (22199, (.var 53199))]))
 (.call 4 59200 [(.hnd 1), (.int .i64 (.var 21200)), (.var 53199)]
 (.call 6 61200 [(.pla (.var 59200) (.var 59201) 3), (.var 53199)]
 (.call 23 62200 [(.hnd 61200), (.var 53199)]
 (.split (.iff (.var 52200) (.cmp .leq (.var 62200) (.lit 400)))
 (.call 4 72200 [(.hnd 1), (.int .i64 (.var 21200)), (.var 53199)]
 (.call 6 74200 [(.pla (.var 72200) (.var 72201) 3), (.var 53199)]
 (.call 23 75200 [(.hnd 74200), (.var 53199)]
 (.split (.cmp .leq (.var 75200) (.lit 400))
 (.call 4 83200 [(.hnd 1), (.int .i64 (.var 21200)), (.var 53199)]
 (.call 6 85200 [(.pla (.var 83200) (.var 83201) 3), (.var 53199)]
 (.call 8 86200 [(.hnd 85200), (.var 53199)]
 (.call 10 88200 [(.agg ([(.int .i64 (.bin .add .i64 (.lit 1) (.var 32200))), (.int .i64 (.bin .add .i64 (.lit 1) (.var 41200))), (.hnd 86200)])), (.var 87199)]
 (.call 9 89200 [(.hnd 21201), (.hnd 88200), (.var 89199)]
 (.again 7 21200 [(21200, (.int .i64 (.bin .add .i64 (.var 21200) (.lit 1)))), (21201, (.hnd 89200)), (22199, (.var 90199))]))))))
 (.again 7 21200 [(21200, (.int .i64 (.bin .add .i64 (.var 21200) (.lit 1)))), (21201, (.hnd 21201)), (22199, (.var 53199))])))))
 (leafG (.bool (.lit false)) .nil 53199)))))))))))))))
 (.call 12 27200 [(.hnd 21201), (.var 22199)]
 (.split (.cmp .gtr (.var 27200) (.lit 0))
 (.call 12 32200 [(.hnd 21201), (.var 22199)]
 (.call 22 33200 [(.int .i64 (.var 2)), (.int .i64 (.var 32200))]
 (.call 13 34200 [(.hnd 21201), (.int .i64 (.var 33200)), (.var 22199)]
 (.call 14 35200 [(.pla (.var 34200) (.var 34201) 0), (.var 22199)]
 (.call 15 43200 [(.hnd 6200), (.int .i64 (.var 35201)), (.int .i64 (.var 35200)), (.bool (.lit true)), (.var 22199)]
 (.loop 19 45200 [(45200, (.int .i64 (.lit 0))), (46199, (.var 44199))]
 (.call 12 48200 [(.hnd 21201), (.var 46199)]
 (.split (.cmp .lss (.var 45200) (.var 48200))
 (.or
 (.or
 (.call 13 52200 [(.hnd 21201), (.int .i64 (.var 45200)), (.var 46199)]
 (.call 5 54200 [(.pla (.var 52200) (.var 52201) 0), (.var 46199)]
 (.call 13 61200 [(.hnd 21201), (.int .i64 (.var 45200)), (.var 46199)]
 (.call 5 63200 [(.pla (.var 61200) (.var 61201) 1), (.var 46199)]
 (.need (.cmp .eql (.var 63200) (.var 35201)) (.need (.cmp .eql (.var 54200) (.var 35200)) (.call 19 91200 [(.hnd 6200), (.int .i64 (.var 45200)), (.var 46199)]
 (.call 16 101200 [(.hnd 6200), (.int .i64 (.var 45200)), (.var 92199)]
 (.split (.var 101203)
 (leafG (.bool (.lit false)) .nil 102199)
 (.call 18 111200 [(.hnd 6200), (.var 102199)]
 (.call 12 113200 [(.hnd 21201), (.var 112199)]
 (.split (.cmp .eql (.var 111200) (.var 113200))
 (.call 24 120200 [(.hnd 21201), (.int .i64 (.var 45200)), (.int .i64 (.bin .add .i64 (.var 45200) (.lit 1))), (.var 112199)]
 (.call 11 122200 [(.hnd 120200), (.agg ([(.int .i64 (.var 91200)), (.int .i64 (.var 91201)), (.hnd 91202)])), (.var 121199)]
 (.split (.cmp .eql (.var 122200) (.lit 1))
 (.again 19 45200 [(45200, (.int .i64 (.bin .add .i64 (.var 45200) (.lit 1)))), (46199, (.var 123199))])
 (leafG (.bool (.lit false)) .nil 123199))))
 (leafG (.bool (.lit false)) .nil 112199)))))))))))))
 (.or
 (.call 13 52200 [(.hnd 21201), (.int .i64 (.var 45200)), (.var 46199)]
 (.call 5 54200 [(.pla (.var 52200) (.var 52201) 0), (.var 46199)]
 (.call 13 61200 [(.hnd 21201), (.int .i64 (.var 45200)), (.var 46199)]
 (.call 5 63200 [(.pla (.var 61200) (.var 61201) 1), (.var 46199)]
 (.call 13 71200 [(.hnd 21201), (.int .i64 (.var 45200)), (.var 46199)]
 (.call 5 73200 [(.pla (.var 71200) (.var 71201) 0), (.var 46199)]
 (.call 13 80200 [(.hnd 21201), (.int .i64 (.var 45200)), (.var 46199)]
 (.call 5 82200 [(.pla (.var 80200) (.var 80201) 1), (.var 46199)]
 (.need (.cmp .eql (.var 73200) (.var 35201)) (.need (.not (.cmp .eql (.var 63200) (.var 35201))) (.need (.cmp .eql (.var 54200) (.var 35200)) (.call 19 91200 [(.hnd 6200), (.int .i64 (.var 45200)), (.var 46199)]
 (.split (.cmp .eql (.var 82200) (.var 35200))
 (.call 16 101200 [(.hnd 6200), (.int .i64 (.var 45200)), (.var 92199)]
 (.split (.var 101203)
 (leafG (.bool (.lit false)) .nil 102199)
 (.call 18 111200 [(.hnd 6200), (.var 102199)]
 (.call 12 113200 [(.hnd 21201), (.var 112199)]
 (.split (.cmp .eql (.var 111200) (.var 113200))
 (.call 24 120200 [(.hnd 21201), (.int .i64 (.var 45200)), (.int .i64 (.bin .add .i64 (.var 45200) (.lit 1))), (.var 112199)]
 (.call 11 122200 [(.hnd 120200), (.agg ([(.int .i64 (.var 91200)), (.int .i64 (.var 91201)), (.hnd 91202)])), (.var 121199)]
 (.split (.cmp .eql (.var 122200) (.lit 1))
 (.again 19 45200 [(45200, (.int .i64 (.bin .add .i64 (.var 45200) (.lit 1)))), (46199, (.var 123199))])
 (leafG (.bool (.lit false)) .nil 123199))))
 (leafG (.bool (.lit false)) .nil 112199))))))
 (.call 24 103200 [(.hnd 21201), (.int .i64 (.var 45200)), (.int .i64 (.bin .add .i64 (.var 45200) (.lit 1))), (.var 92199)]
 (.call 11 105200 [(.hnd 103200), (.agg ([(.int .i64 (.var 91200)), (.int .i64 (.var 91201)), (.hnd 91202)])), (.var 104199)]
 (.split (.cmp .eql (.var 105200) (.lit 1))
 (.again 19 45200 [(45200, (.int .i64 (.bin .add .i64 (.var 45200) (.lit 1)))), (46199, (.var 106199))])
 (leafG (.bool (.lit false)) .nil 106199)))))))))))))))))
 (.call 13 52200 [(.hnd 21201), (.int .i64 (.var 45200)), (.var 46199)]
 (.call 5 54200 [(.pla (.var 52200) (.var 52201) 0), (.var 46199)]
 (.call 13 61200 [(.hnd 21201), (.int .i64 (.var 45200)), (.var 46199)]
 (.call 5 63200 [(.pla (.var 61200) (.var 61201) 1), (.var 46199)]
 (.call 13 71200 [(.hnd 21201), (.int .i64 (.var 45200)), (.var 46199)]
 (.call 5 73200 [(.pla (.var 71200) (.var 71201) 0), (.var 46199)]
 (.need (.not (.cmp .eql (.var 73200) (.var 35201))) (.need (.not (.cmp .eql (.var 63200) (.var 35201))) (.need (.cmp .eql (.var 54200) (.var 35200)) (.call 19 91200 [(.hnd 6200), (.int .i64 (.var 45200)), (.var 46199)]
 (.call 24 103200 [(.hnd 21201), (.int .i64 (.var 45200)), (.int .i64 (.bin .add .i64 (.var 45200) (.lit 1))), (.var 92199)]
 (.call 11 105200 [(.hnd 103200), (.agg ([(.int .i64 (.var 91200)), (.int .i64 (.var 91201)), (.hnd 91202)])), (.var 104199)]
 (.split (.cmp .eql (.var 105200) (.lit 1))
 (.again 19 45200 [(45200, (.int .i64 (.bin .add .i64 (.var 45200) (.lit 1)))), (46199, (.var 106199))])
 (leafG (.bool (.lit false)) .nil 106199))))))))))))))))
 (.or
 (.call 13 52200 [(.hnd 21201), (.int .i64 (.var 45200)), (.var 46199)]
 (.call 5 54200 [(.pla (.var 52200) (.var 52201) 0), (.var 46199)]
 (.call 13 71200 [(.hnd 21201), (.int .i64 (.var 45200)), (.var 46199)]
 (.call 5 73200 [(.pla (.var 71200) (.var 71201) 0), (.var 46199)]
 (.call 13 80200 [(.hnd 21201), (.int .i64 (.var 45200)), (.var 46199)]
 (.call 5 82200 [(.pla (.var 80200) (.var 80201) 1), (.var 46199)]
 (.need (.cmp .eql (.var 73200) (.var 35201)) (.need (.not (.cmp .eql (.var 54200) (.var 35200))) (.call 19 91200 [(.hnd 6200), (.int .i64 (.var 45200)), (.var 46199)]
 (.split (.cmp .eql (.var 82200) (.var 35200))
 (.call 16 101200 [(.hnd 6200), (.int .i64 (.var 45200)), (.var 92199)]
 (.split (.var 101203)
 (leafG (.bool (.lit false)) .nil 102199)
 (.call 18 111200 [(.hnd 6200), (.var 102199)]
 (.call 12 113200 [(.hnd 21201), (.var 112199)]
 (.split (.cmp .eql (.var 111200) (.var 113200))
 (.call 24 120200 [(.hnd 21201), (.int .i64 (.var 45200)), (.int .i64 (.bin .add .i64 (.var 45200) (.lit 1))), (.var 112199)]
 (.call 11 122200 [(.hnd 120200), (.agg ([(.int .i64 (.var 91200)), (.int .i64 (.var 91201)), (.hnd 91202)])), (.var 121199)]
 (.split (.cmp .eql (.var 122200) (.lit 1))
 (.again 19 45200 [(45200, (.int .i64 (.bin .add .i64 (.var 45200) (.lit 1)))), (46199, (.var 123199))])
 (leafG (.bool (.lit false)) .nil 123199))))
 (leafG (.bool (.lit false)) .nil 112199))))))
 (.call 24 103200 [(.hnd 21201), (.int .i64 (.var 45200)), (.int .i64 (.bin .add .i64 (.var 45200) (.lit 1))), (.var 92199)]
 (.call 11 105200 [(.hnd 103200), (.agg ([(.int .i64 (.var 91200)), (.int .i64 (.var 91201)), (.hnd 91202)])), (.var 104199)]
 (.split (.cmp .eql (.var 105200) (.lit 1))
 (.again 19 45200 [(45200, (.int .i64 (.bin .add .i64 (.var 45200) (.lit 1)))), (46199, (.var 106199))])
 (leafG (.bool (.lit false)) .nil 106199))))))))))))))
 (.call 13 52200 [(.hnd 21201), (.int .i64 (.var 45200)), (.var 46199)]
 (.call 5 54200 [(.pla (.var 52200) (.var 52201) 0), (.var 46199)]
 (.call 13 71200 [(.hnd 21201), (.int .i64 (.var 45200)), (.var 46199)]
 (.call 5 73200 [(.pla (.var 71200) (.var 71201) 0), (.var 46199)]
 (.need (.not (.cmp .eql (.var 73200) (.var 35201))) (.need (.not (.cmp .eql (.var 54200) (.var 35200))) (.call 19 91200 [(.hnd 6200), (.int .i64 (.var 45200)), (.var 46199)]
 (.call 24 103200 [(.hnd 21201), (.int .i64 (.var 45200)), (.int .i64 (.bin .add .i64 (.var 45200) (.lit 1))), (.var 92199)]
 (.call 11 105200 [(.hnd 103200), (.agg ([(.int .i64 (.var 91200)), (.int .i64 (.var 91201)), (.hnd 91202)])), (.var 104199)]
 (.split (.cmp .eql (.var 105200) (.lit 1))
 (.again 19 45200 [(45200, (.int .i64 (.bin .add .i64 (.var 45200) (.lit 1)))), (46199, (.var 106199))])
 (leafG (.bool (.lit false)) .nil 106199)))))))))))))
 (.call 15 55200 [(.hnd 6200), (.int .i64 (.var 35200)), (.int .i64 (.var 35201)), (.bool (.lit false)), (.var 46199)]
 (.loop 31 57200 [(57200, (.int .i64 (.lit 0))), (58199, (.var 56199))]
 (.call 12 60200 [(.hnd 21201), (.var 58199)]
 (.split (.cmp .lss (.var 57200) (.var 60200))
 (.call 16 63200 [(.hnd 6200), (.int .i64 (.lit 0)), (.var 58199)]
 (.split (.var 63203)
 (.call 24 77200 [(.hnd 21201), (.int .i64 (.var 57200)), (.int .i64 (.bin .add .i64 (.var 57200) (.lit 1))), (.var 64199)]
 (.call 11 79200 [(.hnd 77200), (.agg ([(.int .i64 (.var 63200)), (.int .i64 (.var 63201)), (.hnd 63202)])), (.var 78199)]
 (.split (.cmp .eql (.var 79200) (.lit 1))
 (.again 31 57200 [(57200, (.int .i64 (.bin .add .i64 (.var 57200) (.lit 1)))), (58199, (.var 80199))])
 (leafG (.bool (.lit false)) .nil 80199))))
 (leafG (.bool (.lit false)) .nil 64199)))
 (.call 16 63200 [(.hnd 6200), (.int .i64 (.lit 0)), (.var 58199)]
 (.split (.var 63203)
 (leafG (.bool (.lit false)) .nil 64199)
 (.call 18 74200 [(.hnd 6200), (.var 64199)]
 (.split (.cmp .eql (.var 74200) (.lit 0))
 (.call 2 78200 [(.var 75199)]
 (leafG (.bool (.var 78200)) .nil 79199))
 (leafG (.bool (.lit false)) .nil 75199)))))))))))))))))
 (.loop 31 30200 [(30200, (.int .i64 (.lit 0))), (31199, (.var 22199))]
 (.call 12 33200 [(.hnd 21201), (.var 31199)]
 (.split (.cmp .lss (.var 30200) (.var 33200))
 (.call 16 36200 [(.hnd 6200), (.int .i64 (.lit 0)), (.var 31199)]
 (.split (.var 36203)
 (.call 24 50200 [(.hnd 21201), (.int .i64 (.var 30200)), (.int .i64 (.bin .add .i64 (.var 30200) (.lit 1))), (.var 37199)]
 (.call 11 52200 [(.hnd 50200), (.agg ([(.int .i64 (.var 36200)), (.int .i64 (.var 36201)), (.hnd 36202)])), (.var 51199)]
 (.split (.cmp .eql (.var 52200) (.lit 1))
 (.again 31 30200 [(30200, (.int .i64 (.bin .add .i64 (.var 30200) (.lit 1)))), (31199, (.var 53199))])
 (leafG (.bool (.lit false)) .nil 53199))))
 (leafG (.bool (.lit false)) .nil 37199)))
 (.call 16 36200 [(.hnd 6200), (.int .i64 (.lit 0)), (.var 31199)]
 (.split (.var 36203)
 (leafG (.bool (.lit false)) .nil 37199)
 (.call 18 47200 [(.hnd 6200), (.var 37199)]
 (.split (.cmp .eql (.var 47200) (.lit 0))
 (.call 2 51200 [(.var 48199)]
 (leafG (.bool (.var 51200)) .nil 52199))
 (leafG (.bool (.lit false)) .nil 48199)))))))))))))))))))))
theorem last_run : runF Try.prog lc lLT 0 10 5 2 200 [] [.int .i64 (.var 0), .hnd 1, .int .i64 (.var 2)] = treeLast := by kernel_rfl
end Go.Proofs.Yteklnfajpignoaa
