/- What is proved: the contract of alike. No condition. -/
import Derived.Test.YteklnfajpignoaaK2
namespace Go.Proofs.Yteklnfajpignoaa
open Sx hiding Sl
set_option maxRecDepth 100000

def eqL (x y : LD) : Bool := decide (x.f = y.f) && decide (x.t = y.t) && decide (x.bs = y.bs)
/-- How many are alike. -/
def cntL (r : List LD) (d : LD) : Nat := r.countP fun x => eqL x d
/-- Letters that may be read. -/
def LsOk (G : List Ob) (r : List Lt) : Prop := ∀ x ∈ r, Sx.Sl G x.v 1 x.bs.length (x.bs.map (Value.int .u8)) ∧ x.bs.length ≤ 1000000
def alikeR (G : List Ob) (l : List Value) (e : Env) : Prop := ∃ (v : Value) (r : List Lt) (d : Lt), l = [v, .agg d.cells.toArray] ∧ Sx.Sl G v 3 r.length (rowC r) ∧ LsOk G r ∧ LsOk G [d] ∧ r.length ≤ 1000000 ∧ e.i 0 = (cntL (r.map Lt.data) d.data : Nat) ∧ e.g gv = encG G
def alikeC : Con := { mkCon 19 [] (.int .i64 (.var 0)) 2 with wr := 1 }
def ap : List Con := [sameC, loadC 3 (.int .i64 (.var 0)), loadC 30 (.hnd 0), lenC 51, idxC 51]
def apS : List ConS := [conR sameR, conR (loadR (.int .i64 (.var 0))), conR (loadR (.hnd 0)), conR lenR, conR (idxR 3)]
theorem ap_holds : Cons Try.prog ap apS := ⟨same_holds, load_holds (by kernel_rfl) rfl, load_holds (by kernel_rfl) rfl, len_holds Try.underlying51, idx_holds Try.underlying51 (by kernel_rfl), trivial⟩
theorem rowC_at {r : List Lt} {k j : Nat} (hk : k < r.length) (hj : j < 3) : (rowC r)[k * 3 + j]? = r[k].cells[j]? := by
  have h := getElem_flat (r := r) (List.getElem?_eq_getElem hk)
  rw [← h, List.getElem?_take_of_lt hj, List.getElem?_drop]
def alInv (G : List Ob) (r : List Lt) (d : Lt) (nv : Nat) (ρ : Env) : Prop := ∃ k : Nat, ρ.g (nv + 999) = encG G ∧ ρ.i (nv + 1) = k ∧ k ≤ r.length ∧ ρ.i nv = (cntL ((r.take k).map Lt.data) d.data : Nat)
def alLQ (G : List Ob) (r : List Lt) (d : Lt) : LoopS := ⟨fun _ nv ρ => alInv G r d nv ρ, fun _ nv ρ => (r.length - ρ.i (nv + 1)).toNat⟩
theorem cntL_le (r : List LD) (d : LD) : cntL r d ≤ r.length := List.countP_le_length
theorem cntL_take {r : List Lt} {d : Lt} {k : Nat} (hk : k < r.length) : cntL ((r.take (k + 1)).map Lt.data) d.data = cntL ((r.take k).map Lt.data) d.data + if eqL r[k].data d.data then 1 else 0 := by
  rw [List.take_add_one, List.getElem?_eq_getElem hk, List.map_append]
  unfold cntL
  rw [List.countP_append]
  congr 1
  simp [List.countP_cons]
def treeAlike : Tree :=
 (.loop 3 4200 [(4200, (.int .i64 (.lit 0))), (4201, (.int .i64 (.lit 0))), (5199, (.var 199))]
 (.call 3 7200 [(.hnd 0), (.var 5199)]
 (.split (.cmp .lss (.var 4201) (.var 7200))
 (.or
 (.or
 (.call 4 11200 [(.hnd 0), (.int .i64 (.var 4201)), (.var 5199)]
 (.call 1 13200 [(.pla (.var 11200) (.var 11201) 0), (.var 5199)]
 (.call 4 20200 [(.hnd 0), (.int .i64 (.var 4201)), (.var 5199)]
 (.call 1 22200 [(.pla (.var 20200) (.var 20201) 1), (.var 5199)]
 (.call 4 30200 [(.hnd 0), (.int .i64 (.var 4201)), (.var 5199)]
 (.call 2 32200 [(.pla (.var 30200) (.var 30201) 2), (.var 5199)]
 (.call 0 35200 [(.hnd 32200), (.hnd 3), (.var 5199)]
 (.need (.cmp .eql (.var 22200) (.var 2)) (.need (.cmp .eql (.var 13200) (.var 1)) (.split (.var 35200)
 (.again 3 4200 [(4200, (.int .i64 (.bin .add .i64 (.var 4200) (.lit 1)))), (4201, (.int .i64 (.bin .add .i64 (.var 4201) (.lit 1)))), (5199, (.var 36199))])
 (.again 3 4200 [(4200, (.int .i64 (.var 4200))), (4201, (.int .i64 (.bin .add .i64 (.var 4201) (.lit 1)))), (5199, (.var 36199))])))))))))))
 (.call 4 11200 [(.hnd 0), (.int .i64 (.var 4201)), (.var 5199)]
 (.call 1 13200 [(.pla (.var 11200) (.var 11201) 0), (.var 5199)]
 (.call 4 20200 [(.hnd 0), (.int .i64 (.var 4201)), (.var 5199)]
 (.call 1 22200 [(.pla (.var 20200) (.var 20201) 1), (.var 5199)]
 (.need (.not (.cmp .eql (.var 22200) (.var 2))) (.need (.cmp .eql (.var 13200) (.var 1)) (.again 3 4200 [(4200, (.int .i64 (.var 4200))), (4201, (.int .i64 (.bin .add .i64 (.var 4201) (.lit 1)))), (5199, (.var 5199))]))))))))
 (.call 4 11200 [(.hnd 0), (.int .i64 (.var 4201)), (.var 5199)]
 (.call 1 13200 [(.pla (.var 11200) (.var 11201) 0), (.var 5199)]
 (.need (.not (.cmp .eql (.var 13200) (.var 1))) (.again 3 4200 [(4200, (.int .i64 (.var 4200))), (4201, (.int .i64 (.bin .add .i64 (.var 4201) (.lit 1)))), (5199, (.var 5199))])))))
 (leafG (.int .i64 (.var 4200)) .nil 5199))))
theorem alike_holds : alikeC.holds Try.prog (conR alikeR) := by
  refine wr_of 1 (c := mkCon 19 [] (.int .i64 (.var 0)) 2) (con_of_runG (cs := ap) (S := apS) (LT := [(3, ⟨[(5, fun b => .int .i64 (.var b)), (6, fun b => .int .i64 (.var (b + 1)))], [], [], true⟩)]) (depth := 0) (fuel := 10) (nv := 200) (av := [.hnd 0, .agg [.int .i64 (.var 1), .int .i64 (.var 2), .hnd 3]]) (T := treeAlike) ap_holds (by kernel_rfl) (by kernel_rfl) (by kernel_rfl) ?_)
    (fun G l e ⟨_, _, _, _, _, _, _, _, _, hG⟩ => ⟨G, hG, ⟨[], by simp⟩⟩)
  rintro G l e0 ⟨v, r, d, rfl, hv, hr, hd, hlen, q0, hG⟩
  have o1 := hv.one
  have hd := hd d (List.mem_singleton_self d)
  have o2 := hd.1.one
  refine ⟨alLQ G r d, (Env.ofL [v, .int .i64 d.f, .int .i64 d.t, d.v]).st (encG G), ?_, rfl, ?_⟩
  · show [v, .agg d.cells.toArray] = [oneOf v, Value.agg #[.int .i64 d.f, .int .i64 d.t, oneOf d.v]]
    rw [oneOf_eq o1, oneOf_eq o2]
    rfl
  refine sem_loop (Env.from_ _ 4200 ((Env.ofL [.int .i64 0, .int .i64 0]).ans (encG G))) (Env.from_ag _ _ _) rfl ⟨0, rfl, rfl, Nat.zero_le _, rfl⟩ (by kernel_rfl) (fun ρ1 ρ2 h => ?_) (fun ρ hag hinv => ?_)
  · show ((r.length : Int) - ρ2.i 4201).toNat = ((r.length : Int) - ρ1.i 4201).toNat
    rw [(h 4201 (by decide)).1]
  obtain ⟨k, hg, hi, hk, hc⟩ := hinv
  have hg : ρ.g 5199 = encG G := hg
  have hi : ρ.i 4201 = k := hi
  have hc : ρ.i 4200 = (cntL ((r.take k).map Lt.data) d.data : Nat) := hc
  have x0 : ρ.v 0 = v := (hag 0 (by decide)).2.2
  have x1 : ρ.i 1 = d.f := (hag 1 (by decide)).1
  have x2 : ρ.i 2 = d.t := (hag 2 (by decide)).1
  have x3 : ρ.v 3 = d.v := (hag 3 (by decide)).2.2
  refine sem_step G [v] (Env.ofL [.int .i64 r.length]) rfl (by show [oneOf (ρ.v 0), ρ.g 5199] = _; rw [x0, hg, oneOf_eq o1]; rfl) ⟨v, 3, _, _, rfl, hv, rfl⟩ ?_
  refine sem_split (fun h => ?_) (fun h => ?_)
  · have h : ρ.i 4201 < (r.length : Int) := of_decide_eq_true h
    have ka : k < r.length := by omega
    obtain ⟨m, p, all, q1, q2, q3, q4⟩ := sl_at hv (by decide) (i := ρ.i 4201) (by omega) h
    have c0 := q4 0 (by decide)
    have c1 := q4 1 (by decide)
    have c2 := q4 2 (by decide)
    rw [hi, Int.toNat_natCast, rowC_at ka (by decide)] at c0 c1 c2
    have hx := hr r[k] (List.getElem_mem _)
    have ox := hx.1.one
    have hcl := cntL_take (d := d) ka
    have hle := cntL_le ((r.take k).map Lt.data) d.data
    rw [List.length_map, List.length_take] at hle
    have hwk := wrap_up' (i := ρ.i 4201) (by omega) (by omega)
    have hwc := wrap_up' (i := ρ.i 4200) (by omega) (by omega)
    have again : ∀ (ρ' : Env) (c : Sx.T) (g : Nat), ρ'.i 4201 = ρ.i 4201 → c.den ρ' = (cntL ((r.take (k + 1)).map Lt.data) d.data : Nat) → ρ'.g g = encG G →
        treeSem apS (alLQ G r d) (KF [] (.int .i64 (.var 0)) e0 2) ρ' (.again 3 4200 [(4200, (.int .i64 c)), (4201, (.int .i64 (.bin .add .i64 (.var 4201) (.lit 1)))), (5199, (.var g))]) := fun ρ' c g e1 e2 e3 => by
      refine sem_again (Env.from_ _ 4200 ((Env.ofL [.int .i64 (c.den ρ'), .int .i64 (ρ.i 4201 + 1)]).ans (encG G))) (Env.from_ag _ _ _) ?_ ⟨k + 1, rfl, ?_, by omega, e2⟩ ?_
      · show [Value.int .i64 (c.den ρ'), Value.int .i64 (ρ.i 4201 + 1), encG G] = [Value.int .i64 (c.den ρ'), Value.int .i64 (IntKind.i64.wrap (ρ'.i 4201 + 1)), ρ'.g g]
        rw [e1, e3, hwk]
      · show ρ.i 4201 + 1 = _
        rw [hi]; rfl
      · show ((r.length : Int) - (ρ.i 4201 + 1)).toNat < ((r.length : Int) - ρ'.i 4201).toNat
        rw [e1]
        omega
    have nidx : ∀ ρ' : Env, ρ'.v 0 = ρ.v 0 → ρ'.i 4201 = ρ.i 4201 → ρ'.g 5199 = ρ.g 5199 → E.nams ρ' lay0 [.hnd 0, .int .i64 (.var 4201), .var 5199] = [v, .int .i64 (ρ.i 4201)] ++ [encG G] := fun ρ' e1 e2 e3 => by
      show [oneOf (ρ'.v 0), Value.int .i64 (ρ'.i 4201), ρ'.g 5199] = _
      rw [e1, e2, e3, x0, hg, oneOf_eq o1]
      rfl
    by_cases hf : r[k].f = d.f
    · by_cases ht : r[k].t = d.t
      · refine sem_or1 (sem_or1 ?_)
        refine sem_step G [v, .int .i64 (ρ.i 4201)] _ rfl (nidx _ rfl rfl rfl) q1 ?_
        refine sem_step G [tokAt m p] (Env.ofL [.int .i64 r[k].f]) rfl (by show [tokAt m (p + 0), ρ.g 5199] = _; rw [hg]; rfl) ⟨m, p, all, _, rfl, q2, c0, rfl⟩ ?_
        refine sem_step G [v, .int .i64 (ρ.i 4201)] _ rfl (nidx _ rfl rfl rfl) q1 ?_
        refine sem_step G [tokAt m (p + 1)] (Env.ofL [.int .i64 r[k].t]) rfl (by show [tokAt m (p + 1), ρ.g 5199] = _; rw [hg]; rfl) ⟨m, p + 1, all, _, rfl, q2, c1, rfl⟩ ?_
        refine sem_step G [v, .int .i64 (ρ.i 4201)] _ rfl (nidx _ rfl rfl rfl) q1 ?_
        refine sem_step G [tokAt m (p + 2)] (Env.ofL [r[k].v]) rfl (by show [tokAt m (p + 2), ρ.g 5199] = _; rw [hg]; rfl) ⟨m, p + 2, all, _, rfl, q2, c2, hnd_nam rfl ox⟩ ?_
        refine sem_step G [r[k].v, d.v] ((Env.ofL [.bool (decide (r[k].bs = d.bs))]).ans (encG G)) rfl (by show [oneOf (r[k].v), oneOf (ρ.v 3), ρ.g 5199] = _; rw [x3, hg, oneOf_eq ox, oneOf_eq o2]; rfl) ⟨_, _, _, _, rfl, hx.1, hd.1, hx.2, rfl, rfl⟩ ?_
        refine sem_need (by show (r[k].t == ρ.i 2) = true; rw [x2, ht]; simp) ?_
        refine sem_need (by show (r[k].f == ρ.i 1) = true; rw [x1, hf]; simp) ?_
        refine sem_split (fun h => ?_) (fun h => ?_)
        · have h : r[k].bs = d.bs := of_decide_eq_true h
          refine again _ _ _ rfl ?_ rfl
          show IntKind.i64.wrap (ρ.i 4200 + 1) = _
          rw [hwc, hcl, if_pos (by simp [eqL, Lt.data, hf, ht, h]), hc]
          rfl
        · have h : ¬ r[k].bs = d.bs := of_decide_eq_false h
          refine again _ _ _ rfl ?_ rfl
          show ρ.i 4200 = _
          rw [hcl, if_neg (by simp [eqL, Lt.data, h]), hc]
          rfl
      · refine sem_or1 (sem_or2 ?_)
        refine sem_step G [v, .int .i64 (ρ.i 4201)] _ rfl (nidx _ rfl rfl rfl) q1 ?_
        refine sem_step G [tokAt m p] (Env.ofL [.int .i64 r[k].f]) rfl (by show [tokAt m (p + 0), ρ.g 5199] = _; rw [hg]; rfl) ⟨m, p, all, _, rfl, q2, c0, rfl⟩ ?_
        refine sem_step G [v, .int .i64 (ρ.i 4201)] _ rfl (nidx _ rfl rfl rfl) q1 ?_
        refine sem_step G [tokAt m (p + 1)] (Env.ofL [.int .i64 r[k].t]) rfl (by show [tokAt m (p + 1), ρ.g 5199] = _; rw [hg]; rfl) ⟨m, p + 1, all, _, rfl, q2, c1, rfl⟩ ?_
        refine sem_need (by show (!(r[k].t == ρ.i 2)) = true; rw [x2]; simp [ht]) ?_
        refine sem_need (by show (r[k].f == ρ.i 1) = true; rw [x1, hf]; simp) ?_
        refine again _ _ _ rfl ?_ hg
        show ρ.i 4200 = _
        rw [hcl, if_neg (by simp [eqL, Lt.data, ht]), hc]
        rfl
    · refine sem_or2 ?_
      refine sem_step G [v, .int .i64 (ρ.i 4201)] _ rfl (nidx _ rfl rfl rfl) q1 ?_
      refine sem_step G [tokAt m p] (Env.ofL [.int .i64 r[k].f]) rfl (by show [tokAt m (p + 0), ρ.g 5199] = _; rw [hg]; rfl) ⟨m, p, all, _, rfl, q2, c0, rfl⟩ ?_
      refine sem_need (by show (!(r[k].f == ρ.i 1)) = true; rw [x1]; simp [hf]) ?_
      refine again _ _ _ rfl ?_ hg
      show ρ.i 4200 = _
      rw [hcl, if_neg (by simp [eqL, Lt.data, hf]), hc]
      rfl
  · have h : ¬ ρ.i 4201 < (r.length : Int) := of_decide_eq_false h
    have hkl : k = r.length := by omega
    refine sem_retG rfl ?_ trivial (by rw [hG]; exact hg)
    show Value.int .i64 (ρ.i 4200) = Value.int .i64 (e0.i 0)
    rw [q0, hc, hkl, List.take_length]
end Go.Proofs.Yteklnfajpignoaa
