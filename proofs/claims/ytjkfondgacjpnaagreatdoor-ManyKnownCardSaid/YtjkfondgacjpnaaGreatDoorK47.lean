/- What is proved: parts of the walk and of the plain law, 3 texts in one. No condition but those each law names. -/
import Derived.Test.YtjkfondgacjpnaaGreatDoorK46
namespace Go.Proofs.YtjkfondgacjpnaaGreatDoor
open Go.RowKit
open Sx (Ab DW Turns Did Foot MapIs)
set_option maxRecDepth 100000
attribute [local go_sem ↓] rowOf_cell
attribute [local go_sem] rowOf_alloc soft_alloc rowOf_drew soft_drew rowOf_setRow soft_setRow rowOf_setCell soft_setCell frozen_of_soft rowOf_map soft_map Sx.run_mk Ext.row Ext.soft_
theorem Start.ctx {w W : World} {S : MS} {N : Nat} (st : Start w W S N) (hF : Forms w) (hT : Tabs w) {a b : Nat} (ab : a ≠ b) (ha : 1 ≤ a ∧ a ≤ N) (hb : 1 ≤ b ∧ b ≤ N) :
    ∃ n1 n2 E1 E2 tb, Ctx S a b N n1 n2 E1 E2 tb ∧ Duo S S W a b E1 E2 tb [] [] ∧ DI E1 E1 (· = []) [] ∧ DI E2 E2 (· = []) [] ∧ E1.seed.length ≤ 64 ∧ 0 < E1.seed.length := by
  obtain ⟨n1, E1, i1, m1, r1, c1⟩ := st.fr a ha.1 ha.2
  obtain ⟨n2, E2, i2, m2, r2, c2⟩ := st.fr b hb.1 hb.2
  obtain ⟨tb, t1, t2⟩ := i1.tm
  refine ⟨n1, n2, E1, E2, tb, ⟨hF.keep (Nat.le_refl _) st.u, hT.keep (Nat.le_refl _) st.u, st.nbx, st.nodes, st.now, ab, ha, hb, i1.nd, i2.nd, i1.at_, i2.at_, i1.xv, i2.xv, t2⟩, ⟨st.mw, rfl, rfl, rfl, i1.ds, i2.ds, fun _ _ _ => rfl, fun _ _ => rfl, t1, by unfold Nt.says; rw [st.L]; rfl⟩, ⟨rfl, i1.t, rfl, rfl, m1, r1, c1⟩, ⟨rfl, i2.t, rfl, rfl, m2, r2, c2⟩, i1.seed ▸ i1.sl, i1.seed ▸ i1.s0⟩
def lgP : Lg := ⟨1, 216, 0⟩
def lgG : Lg := ⟨0, 200, 0⟩
theorem lg_set (a b : Int) : (Lg.zero.cells.setIfInBounds 0 (.int .i64 a)).setIfInBounds 1 (.int .i64 b) = Lg.cells ⟨a, b, 0⟩ := rfl
attribute [local go_sem] lg_set
theorem results_rr {P : Program} {fn : Func} {p u : Tmp} {d : TypeDesc} {t : TypeId} {n : Nat} (hr : fn.results = #[.cell p t, .cell u t]) (hu : P.underlying t = some d) (hd : d.isRow = true) (hi : (P.info? t).map (·.size) = some n)
    (tmps : Array Value) (w : World) (b b2 : Nat) (hp : tmps.getD p undef = .pointer (some ⟨b, 0, none⟩)) (hq : tmps.getD u undef = .pointer (some ⟨b2, 0, none⟩)) {cs cs2 : Array Value} (hc : rowOf w b = cs) (hn : cs.size = n) (hc2 : rowOf w b2 = cs2) (hn2 : cs2.size = n) :
    (results fn tmps).run P w = .ok (.tuple #[.agg cs, .agg cs2]) w := by
  have h1 := var_row t n hu hd hi w b 0 (by rw [hc]; omega)
  have h2 := var_row t n hu hd hi w b2 0 (by rw [hc2]; omega)
  have hp' : tmps[p]?.getD undef = .pointer (some ⟨b, 0, none⟩) := by simpa using hp
  have hq' : tmps[u]?.getD undef = .pointer (some ⟨b2, 0, none⟩) := by simpa using hq
  have e : sub (rowOf w b) 0 n = cs := by rw [hc, ← hn]; simp [sub]
  have e2 : sub (rowOf w b2) 0 n = cs2 := by rw [hc2, ← hn2]; simp [sub]
  rw [e] at h1
  rw [e2] at h2
  simp [results, hr, hp', hq', asAddr, h1, h2]
theorem legs_any (w : World) : Calls Tryz.prog 6 #[] w fun e w' => e = .returned (.tuple #[.agg lgP.cells, .agg lgG.cells]) ∧ Below w.heap.size w w' := by
  go_enter Tryz.func6, Tryz.ntmps6
  go_wp2
  have b := Bxs.new2 w Lg.zero.cells 26 Lg.zero.cells 26
  have s0 := b.soft' 0 rfl
  have s1 := b.soft' 1 rfl
  rw [Nat.add_zero] at s0
  have hz := b.lt 1 rfl
  have b1 := Below.setRow_ (Below.setRow_ b.below (Nat.le_refl _) lgP.cells) (Nat.le_succ _) lgG.cells
  have r0 : rowOf ((((w.alloc (.cells Lg.zero.cells 26)).alloc (.cells Lg.zero.cells 26)).setRow w.heap.size lgP.cells).setRow (w.heap.size + 1) lgG.cells) w.heap.size = lgP.cells := by
    rw [rowOf_setRow _ _ _ _ (by rw [soft_setRow]; exact s1), if_neg (by omega), rowOf_setRow _ _ _ _ s0, if_pos rfl]
  have r1 : rowOf ((((w.alloc (.cells Lg.zero.cells 26)).alloc (.cells Lg.zero.cells 26)).setRow w.heap.size lgP.cells).setRow (w.heap.size + 1) lgG.cells) (w.heap.size + 1) = lgG.cells := by
    rw [rowOf_setRow _ _ _ _ (by rw [soft_setRow]; exact s1), if_pos rfl]
  refine bodyPost_ret (results_rr (t := 26) rfl Tryz.underlying26 rfl (by kernel_rfl) _ _ w.heap.size (w.heap.size + 1) rfl rfl r0 rfl r1 rfl) rfl ?_
  exact ⟨rfl, b1⟩
theorem k_err (h : Hs) : errD (legsV T26 ⟨7, 1, lgP, lgG, h, 2⟩ ⟨100, 200, 0⟩) = 0 := by kernel_rfl
theorem k_tak (h : Hs) : takesE T26 (heardD (proposeM (legsV T26 ⟨7, 1, lgP, lgG, h, 2⟩ ⟨100, 200, 0⟩)) 1) ⟨100, 200, 0⟩ 1000 = 0 := by kernel_rfl
theorem Waits_duo {S0 S : MS} {W : World} {a b N : Nat} {n1 n2 : Nd} {E1 E2 D1 D2 : Dm} {tb : Nat} {tl : List (Int × Value)} {L : List (Int × Int × List Nat)} (c : Ctx S0 a b N n1 n2 E1 E2 tb) (d : Duo S0 S W a b D1 D2 tb tl L) : Calls Tryz.prog 11 #[.pointer (some ⟨S0.nb, 0, none⟩)] W fun e w' => e = .returned (.int .i64 L.length) ∧ w' = W := by
  obtain ⟨_, _, _, e4, _, _, _⟩ := d.eqs
  have K := Waits_any d.mw.netAt
  rw [d.len] at K
  rw [← e4, d.nbx c]
  exact K
theorem Duo.wrow {S0 S : MS} {W : World} {a b : Nat} {D1 D2 : Dm} {tb : Nat} {tl : List (Int × Value)} {L : List (Int × Int × List Nat)} (d : Duo S0 S W a b D1 D2 tb tl L) : rowOf W S0.wb = wrC S0.nb S0.mb S0.now := by
  obtain ⟨_, e2, e3, e4, e5, _, _⟩ := d.eqs
  have r := rowOf_of d.mw.wrAt
  rw [e2, e3, e4, e5] at r
  exact r
theorem with_one {i : Int} {s : Sw} {M : List (Int × En)} (h : With [] i s M) : ∃ q : En, M = [(i, q)] ∧ q.s = s := by
  obtain ⟨b, m, rfl⟩ := h
  exact ⟨⟨b, m, s⟩, rfl, rfl⟩
theorem st_agreed2 {S0 S : MS} {W : World} {a b N : Nat} {n1 n2 : Nd} {E1 E2 D1 D2 : Dm} {tb : Nat} {tl : List (Int × Value)} {L : List (Int × Int × List Nat)} {R : List (Int × List Nat)} (c : Ctx S0 a b N n1 n2 E1 E2 tb) (d : Duo S0 S W a b D1 D2 tb tl L) {i : Int} {s : Sw} (i2 : DI E2 D2 (With [] i s) R) (hi : I64 i) (h1 : s.d.i = i) (h2 : s.d.r = 2) (h3 : s.d.q = a) :
    Calls Tryz.prog 14 #[.pointer (some ⟨S0.wb, 0, none⟩), .int .i64 b, .int .i64 i, .int .i64 2, .int .i64 a] W fun e w' => e = .returned (.bool true) ∧ Duo S0 S w' a b D1 D2 tb tl L := by
  obtain ⟨q, hM, hq⟩ := with_one i2.book
  obtain ⟨_, e2, _, _, _, _, _⟩ := d.eqs
  rw [← e2]
  refine (agreed_any d.mw (d.live2 c i2) (by rw [hM]; simp) (fun p hp => by rw [hM] at hp; rw [List.mem_singleton.1 hp]; exact hi) i 2 a).mono ?_
  rintro e w' ⟨ks, hp, he, hb⟩
  rw [hM] at hp
  have hk : ks = [i] := List.perm_singleton.1 hp
  subst hk
  have hg : swO (getA D2.M i) = s := by rw [hM]; show swO (if i = i then some q else none) = s; rw [if_pos rfl]; exact hq
  have ht : [i].any (hasD D2.M i 2 a) = true := by
    show (hasD D2.M i 2 a i || false) = true
    unfold hasD
    rw [hg, h1, h2, h3]
    simp
  rw [ht] at he
  exact ⟨he, d.below hb⟩
theorem seven : I64 7 := ⟨by decide, by decide⟩
set_option maxHeartbeats 4000000 in
theorem works_any {w : World} (hF : Forms w) (hT : Tabs w) : Calls Tryz.prog 7 #[] w fun e w' => e = .returned (.bool true) ∧ Below w.heap.size w w' := by
  have HF := Lib.hid hF
  have HT := Lib.hid hT
  clear hF hT
  go_enter Tryz.func7, Tryz.ntmps7
  go_wp2_with (first
    | (go_at_call 5; refine (made_any (n := 2) ⟨by decide, by decide⟩).mono ?_; rintro _ W ⟨S, rfl, st⟩; have ST := Lib.hid st; clear st)
    | (go_at_call 6; refine (legs_any W).mono ?_; rintro _ V ⟨rfl, hb⟩; have HB := Lib.hid hb; clear hb))
  have bV : Below V.heap.size V ((((V.alloc (.cells Lg.zero.cells 26)).alloc (.cells Lg.zero.cells 26)).setRow V.heap.size lgP.cells).setRow (V.heap.size + 1) lgG.cells) := Below.setRow_ (Below.setRow_ (Bxs.new2 V Lg.zero.cells 26 Lg.zero.cells 26).below (Nat.le_refl _) lgP.cells) (Nat.le_succ _) lgG.cells
  generalize (((V.alloc (.cells Lg.zero.cells 26)).alloc (.cells Lg.zero.cells 26)).setRow V.heap.size lgP.cells).setRow (V.heap.size + 1) lgG.cells = V3 at bV ⊢
  obtain ⟨n1, n2, E1, E2, tb, c, d, i1, i2, hs, h0⟩ := ST.out.ctx HF.out HT.out (a := 1) (b := 2) (by decide) ⟨by decide, by decide⟩ ⟨by decide, by decide⟩
  have d3 := d.below (HB.out.trans (bV.mono HB.out.size))
  have hu := ST.out.u
  have P := st_propose (i := 7) (p := lgP) (g := lgG) c d3 i1 hs seven (by decide) (k_err _) (eq_false (by decide)) (eq_false (by decide))
  have edd : dealP E1 2 7 lgP lgG = legsV T26 ⟨7, 1, lgP, lgG, sumH (secretH (E1.seed ++ intI 7)).l, 2⟩ ⟨100, 200, 0⟩ := rfl
  have ke : errD (dealP E1 2 7 lgP lgG) = 0 := k_err _
  have kt : takesE T26 (heardD (proposeM (dealP E1 2 7 lgP lgG)) 1) ⟨100, 200, 0⟩ 1000 = 0 := k_tak _
  have ksm : Small (dealP E1 2 7 lgP lgG).h.l := by rw [(dealP_ih E1 2 7 lgP lgG).2]; exact sumH_small _
  have ki : (dealP E1 2 7 lgP lgG).i = 7 := (dealP_ih E1 2 7 lgP lgG).1
  have kr : (dealP E1 2 7 lgP lgG).r = 1 ∧ (dealP E1 2 7 lgP lgG).q = 2 := ⟨rfl, rfl⟩
  generalize dealP E1 2 7 lgP lgG = dd at *
  clear edd
  refine P.mono ?_
  rintro _ W1 ⟨rfl, S1, D1, d4, j1⟩
  have rw1 := d4.wrow
  have C := Lib.hid c
  have A := Lib.hid (And.intro d4 j1)
  have KK := Lib.hid (And.intro ke (And.intro kt (And.intro ksm (And.intro ki kr))))
  have I2 := Lib.hid i2
  have HU := Lib.hid hu
  clear P d d3 d4 j1 i1 i2 hs h0 ke kt ksm ki kr c hu HB bV ST HF HT
  have lm := putLM_len (proposeM dd)
  have K1 := Lib.hid (st_double (k := 0) C.out A.out.1 rfl (by show (putLM (proposeM dd)).length < 1000000; omega) (by simp))
  go_wp2_with fail
  refine K1.out.mono ?_
  rintro _ W2 ⟨rfl, S2, d5⟩
  clear rw1
  have A2 := Lib.hid d5
  clear d5 K1
  have K2 := Lib.hid (st_hear_ok (k := 0) C.out A2.out I2.out (by decide) rfl KK.out.1 KK.out.2.2.1 (by simp) KK.out.2.1)
  go_wp2_with fail
  refine K2.out.mono ?_
  rintro _ W3 ⟨rfl, S3, D2, d6, j2⟩
  have A3 := Lib.hid (And.intro (show Duo S S3 W3 1 2 D1 D2 tb [] [((1 : Nat), (2 : Nat), putLM (proposeM dd)), ((2 : Nat), (1 : Nat), putLM (acceptM (heardD (proposeM dd) 1)))] from d6) j2)
  clear d6 j2 K2 A2
  have K3 := Lib.hid (st_agreed2 C.out A3.out.1 (by have := A3.out.2; rw [KK.out.2.2.2.1] at this; exact this) seven KK.out.2.2.2.1 rfl rfl)
  go_wp2_with fail
  refine K3.out.mono ?_
  rintro _ W4 ⟨rfl, d7⟩
  have A4 := Lib.hid d7
  clear d7 K3
  obtain ⟨t1, ⟨v, t2, t3⟩, t4⟩ := takesE_ok KK.out.2.1
  obtain ⟨q2, hM2, hq2⟩ := with_one A3.out.2.book
  have K4 := Lib.hid (st_hear_no (k := 0) (e := 13) (free := 1000) C.out A4.out A3.out.2 rfl KK.out.1 KK.out.2.2.1 (by simp) (by decide) fun X da => takes_twice (v := v) (q := q2) da (Lib.hid (by rw [A3.out.2.t]; exact T26_ok)) (errD_ok t1) (Lib.hid (by rw [A3.out.2.t]; exact t2)) (eq_false t3) (Lib.hid (by rw [A3.out.2.t]; exact t4)) (Lib.hid (by rw [hM2]; show (if dd.i = dd.i then some q2 else none) = some q2; rw [if_pos rfl])))
  clear t1 t2 t3 t4 hM2 hq2
  go_wp2_with fail
  refine K4.out.mono ?_
  rintro _ W5 ⟨rfl, S5, d8⟩
  have A5 := Lib.hid (show Duo S S5 W5 1 2 D1 D2 tb [] [((2 : Nat), (1 : Nat), putLM (acceptM (heardD (proposeM dd) 1))), ((2 : Nat), (1 : Nat), putC dd.i 13)] from d8)
  clear d8 K4
  obtain ⟨q1, hM1, hq1⟩ := with_one A.out.2.book
  have hg1 : getA D1.M dd.i = some q1 := by rw [hM1, KK.out.2.2.2.1]; rfl
  have K5 := Lib.hid (st_ref (k := 1) (free := 1000) C.out A5.out A.out.2 hg1 (by rw [hq1]; exact KK.out.2.2.2.2.1) (by rw [hq1]; exact KK.out.2.2.2.2.2) rfl (by rw [KK.out.2.2.2.1]; decide) (by decide) (by simp) rfl)
  have HG := Lib.hid (And.intro hg1 hq1)
  clear hM1 hq1 hg1
  go_wp2_with fail
  refine K5.out.mono ?_
  rintro _ W6 ⟨rfl, S6, d9⟩
  have A6 := Lib.hid (show Duo S S6 W6 1 2 D1 D2 tb [(dd.i, wordV 3 13)] [((2 : Nat), (1 : Nat), putLM (acceptM (heardD (proposeM dd) 1)))] from d9)
  clear d9 K5
  have K6 := Lib.hid (st_told (i := 7) (x := 3) (y := 13) C.out A6.out A.out.2 (by rw [KK.out.2.2.2.1]; rfl))
  go_wp2_with fail
  refine K6.out.mono ?_
  rintro _ W7 ⟨rfl, d10⟩
  have A7 := Lib.hid d10
  clear d10 K6
  have K7 := Lib.hid (st_acc (k := 0) (free := 1000) (x := 3) (y := 13) C.out A7.out A.out.2 HG.out.1 (by rw [HG.out.2]) KK.out.2.2.2.2.1 KK.out.2.2.2.2.2 rfl (takesE_ok KK.out.2.1).1 KK.out.2.2.1 (by simp) (by simp [getA]))
  go_wp2_with fail
  refine K7.out.mono ?_
  rintro _ W8 ⟨rfl, S8, d11⟩
  have A8 := Lib.hid (show Duo S S8 W8 1 2 D1 D2 tb (putA [(dd.i, wordV 3 13)] dd.i (wordV 2 0)) [] from d11)
  clear d11 K7
  have K8 := Lib.hid (st_told (i := 7) (x := 2) (y := 0) C.out A8.out A.out.2 (by rw [getA_put, KK.out.2.2.2.1]; rfl))
  go_wp2_with fail
  refine K8.out.mono ?_
  rintro _ W9 ⟨rfl, d12⟩
  have rw9 := d12.wrow
  have A9 := Lib.hid d12
  clear d12 K8
  have K9 := Lib.hid (Waits_duo C.out A9.out)
  go_wp2_with (go_at_call 11; refine K9.out.mono ?_; rintro _ W10 ⟨rfl, rfl⟩)
  go_ret
  obtain ⟨e1, _⟩ := A9.out.eqs
  have lo := A9.out.mw.low
  rw [e1] at lo
  exact ⟨rfl, HU.out.trans (lo.mono HU.out.size)⟩
end Go.Proofs.YtjkfondgacjpnaaGreatDoor

namespace Go.Proofs.YtjkfondgacjpnaaGreatDoor
open Go.RowKit
open Sx (Ab DW Turns Did Foot MapIs)
set_option maxRecDepth 100000
theorem keep1_down {w : World} {xb b0 b1 : Nat} {C : Array Value} {t : TypeId} (h0 : w.cell? ⟨b0, 0, none⟩ = some (.pointer (some ⟨xb, 0, none⟩))) (h1 : w.cell? ⟨b1, 0, none⟩ = some (.int .i64 9)) (hx : w.heap[xb]? = some (.cells C t)) (hc : C[12]? = some (.bool false)) :
    CallsD Tryz.prog 68 #[.pointer (some ⟨b0, 0, none⟩), .pointer (some ⟨b1, 0, none⟩)] .returning w fun e u' w' => u' = .returning ∧ (∃ v, e = .returned v) ∧ w' = (w.setCell ⟨xb, 12, none⟩ (.bool true)).drew := by
  have c12 : w.cell? ⟨xb, 12, none⟩ = some (.bool false) := by simp [World.cell?, hx, hc]
  have f12 : w.frozen? ⟨xb, 12, none⟩ = false := by simp [World.frozen?, hx]
  refine callsD_of_wp Tryz.func68 rfl ?_
  simp only [Tryz.ntmps68, List.size_toArray, List.length_cons, List.length_nil, Nat.reduceAdd, Nat.reduceSub, Array.replicate_succ, Array.replicate_zero, List.push_toArray, List.append_toArray, List.nil_append, List.cons_append]
  clear hc
  go_region
  go_end0
  exact ⟨⟨_, rfl⟩, rfl⟩
attribute [local go_sem ↓] rowOf_cell
attribute [local go_sem] rowOf_alloc soft_alloc rowOf_drew soft_drew rowOf_setRow soft_setRow rowOf_setCell soft_setCell frozen_of_soft rowOf_map soft_map Sx.run_mk Ext.row Ext.soft_
def deadP (D : Dm) (i : Nat) : Prop := i = D.xb ∨ ∃ x, D.F i x
structure HalfAt (w : World) (D : Dm) : Prop where
  row : w.heap[D.xb]? = some (.cells (dmC D.t D.sv D.jb D.bk false) 109)
  dw : DW w D.F D.dv D.A
  ap : ∀ x, ¬ D.F D.xb x
theorem HalfAt.keepB {w w' : World} {D : Dm} (h : HalfAt w D) (hk : ∀ i, deadP D i → w'.heap[i]? = w.heap[i]?) : HalfAt w' D :=
  ⟨(hk _ (.inl rfl)).trans h.row, h.dw.keepB fun i hx => hk i (.inr hx), h.ap⟩
theorem HalfAt.lt {w : World} {D : Dm} (h : HalfAt w D) {i : Nat} (hi : deadP D i) : i < w.heap.size := by
  rcases hi with rfl | ⟨x, hx⟩
  · exact (Array.getElem?_eq_some_iff.1 h.row).1
  · exact h.dw.lt hx
theorem HalfAt.kill {w : World} {D : Dm} (h : HalfAt w D) : DeadAt (w.setCell ⟨D.xb, 12, none⟩ (.bool true)) D := by
  refine ⟨?_, h.dw.keepB fun i ⟨x, hx⟩ => ?_⟩
  · rw [heap_setCell_at, if_pos rfl, h.row]
    rfl
  · rw [heap_setCell_at, if_neg (fun e : D.xb = i => h.ap x (e ▸ hx))]
theorem log_down {w : World} {D : Dm} (h : Dae w D) (hf : Forms w) {r : Rc} {L : List Nat} (hput : ∀ w, Forms w → Calls Tryz.prog 91 #[.agg r.cells] w (RetRec L w)) (hs : Small L) (hl : L.length < 1000000) (hE : appE D.A D.j 1 L = 9) :
    Calls Tryz.prog 69 #[.pointer (some ⟨D.xb, 0, none⟩), .agg r.cells] w fun e w' => e = .returned (.int .i64 9) ∧ ∃ F', HalfAt w' { D with F := F', A := appA D.A D.j 1 L } ∧ Comp w w' D.all (deadP { D with F := F', A := appA D.A D.j 1 L }) := by
  have H := Lib.hid h
  have HF := Lib.hid hf
  have HP := Lib.hid hput
  have HO := Lib.hid (And.intro hs (And.intro hl hE))
  clear h hf hput hs hl hE
  go_enter Tryz.func69, Tryz.ntmps69
  go_upto_region 1 with (fail)
  have bx := Bx.new w (r.cells) 119; generalize w.alloc (.cells (r.cells) 119) = W at bx ⊢; have rx := bx.rowOf; have sx := bx.soft; have BX := Lib.hid bx; clear bx
  have P := Lib.hid (HP.out W (HF.out.keep (Nat.le_refl _) BX.out.below))
  go_wp2_with fail
  refine P.out.mono ?_
  rintro _ V ⟨ao, c, rfl, hb, ho⟩
  have hbw : Below w.heap.size w V := BX.out.below.trans (hb.mono BX.out.below.size)
  have h2 := H.out.below hbw
  have r0 := rowOf_of h2.row
  unfold Dm.cells at r0
  have ap : Apart V D.F D.jb ao := fun k o e => by
    subst e
    have h1 := ho.lt k rfl
    refine ⟨h1.2, fun e => ?_, fun x hx => ?_⟩
    · have := H.out.jd.lt
      have := BX.out.below.size
      omega
    · have := H.out.jd.dw.lt hx
      have := BX.out.below.size
      omega
  have K := Append_any h2.jd h2.hold.half.okJ 1 (Sl.own ho) HO.out.1 (by have := HO.out.2.1; omega) ap
  rw [HO.out.2.2] at K
  have K := Lib.hid K
  have HB := Lib.hid hbw
  have H2 := Lib.hid h2
  clear hb ho hbw h2 ap P rx sx BX
  go_wp2_with fail
  refine K.out.mono ?_
  rintro _ V2 ⟨rfl, F', q1, q2⟩
  have fx := H2.out.f1 D.xb (.inl rfl)
  have hx : V2.heap[D.xb]? = some (.cells (dmC D.t D.sv D.jb D.bk false) 109) := (q2.block _ (Array.getElem?_eq_some_iff.1 H2.out.row).1 fx.1 fx.2).trans H2.out.row
  have lx := (Array.getElem?_eq_some_iff.1 H2.out.row).1
  have apx : ∀ x, ¬ F' D.xb x := fun x q => (q2.fb _ _ q).elim (fx.2 x) fun hh => by omega
  have Q1 : HalfAt V2 { D with F := F', A := appA D.A D.j 1 L } := ⟨hx, q1.dw, apx⟩
  have Q2 : Comp w V2 D.all (deadP { D with F := F', A := appA D.A D.j 1 L }) := (Comp.below HB.out).trans ⟨q2.os, q2.tape, q2.output, q2.size, fun i hi hn => ⟨q2.block i hi (fun e => hn (.inr (.inl e))) fun x hx => hn (.inr (.inr ⟨x, hx⟩)), fun q => by
    rcases q with q | ⟨x, q⟩
    · exact hn (.inl (.inl q))
    · exact (q2.fb _ _ q).elim (fun q => hn (.inr (.inr ⟨x, q⟩))) fun hh => by omega⟩⟩
  have HQ := Lib.hid (And.intro Q1 Q2)
  clear K q1 q2 r0 fx hx lx apx Q1 Q2
  go_wp2
  go_ret
  exact ⟨rfl, F', HQ.out⟩
set_option maxHeartbeats 2000000 in
theorem keep_down {n m : Nat} (hn : n ≤ 2) (hm : m < n) {Q : Dm → Prop} {rs : Nat → Rc} {S S' : Nat → World → Dm → Prop} (hS : ∀ k w D, S k w D → Dae w D) (hS' : ∀ k w D, S' k w D → Dae w D) (hl : ∀ k w w' D, S k w D → Below w.heap.size w w' → S k w' D) (hl' : ∀ k w w' D, S' k w D → Below w.heap.size w w' → S' k w' D)
    (hlog : ∀ k, k < m → ∀ w D, S k w D → Base w D → Calls Tryz.prog 69 #[.pointer (some ⟨D.xb, 0, none⟩), .agg (rs k).cells] w fun e w' => e = .returned (.int .i64 0) ∧ ∃ D', S' k w' D' ∧ Trans w D w' D')
    (happ : ∀ k, k < m → ∀ w D, S' k w D → Base w D → Calls Tryz.prog 70 #[.pointer (some ⟨D.bk, 0, none⟩), .agg (rs k).cells] w fun e w' => e = .returned (.int .i64 0) ∧ ∃ D', S (k + 1) w' D' ∧ Trans w D w' D')
    (hbad : ∀ w D, S m w D → Base w D → Calls Tryz.prog 69 #[.pointer (some ⟨D.xb, 0, none⟩), .agg (rs m).cells] w fun e w' => e = .returned (.int .i64 9) ∧ ∃ D', HalfAt w' D' ∧ D'.xb = D.xb ∧ Q D' ∧ Comp w w' D.all (deadP D'))
    {w : World} {D : Dm} (h : S 0 w D) (hB : Base w D) {lb : Nat} {C : Array Value} (hlb : w.heap[lb]? = some (.cells C 119)) (hCs : C.size = 80 * n) (hCr : ∀ k, k < n → sub C (k * 80) 80 = (rs k).cells) (hna : ¬ D.all lb) :
    Calls Tryz.prog 48 #[.pointer (some ⟨D.xb, 0, none⟩), .slice (some ⟨lb, 0, none⟩) n n] w fun e w' => e = .returned (.int .i64 9) ∧ ∃ D', DeadAt w' D' ∧ D'.xb = D.xb ∧ Q D' ∧ Comp w w' D.all (deadP D') := by
  obtain ⟨w1, hw1⟩ : ∃ w1, w1 = (w.alloc (.cells #[.pointer (some ⟨D.xb, 0, none⟩)] 58)).alloc (.cells #[.int .i64 0] 32) := ⟨_, rfl⟩
  have bx : Bxs w [(#[.pointer (some ⟨D.xb, 0, none⟩)], 58), (#[.int .i64 0], 32)] w1 := by rw [hw1]; exact Bxs.new2 w _ _ _ _
  have hst := hl 0 w w1 D h bx.below
  have hT0 : Trans w D w1 D := Trans.below bx.below
  have hBa := hB.trans hT0
  have D0 := hS 0 w D h
  have na0 : ¬ D.all w.heap.size := fun q => absurd (D0.all_lt q) (Nat.lt_irrefl _)
  have na1 : ¬ D.all (w.heap.size + 1) := fun q => by have := D0.all_lt q; omega
  have lt0 := bx.lt 0 rfl
  have lt1 := bx.lt 1 rfl
  have x0 : w1.heap[w.heap.size]? = some (.cells #[.pointer (some ⟨D.xb, 0, none⟩)] 58) := bx.rows 0 _ _ rfl
  have x1 : w1.heap[w.heap.size + 1]? = some (.cells #[.int .i64 0] 32) := bx.rows 1 _ _ rfl
  have xl : w1.heap[lb]? = some (.cells C 119) := (bx.below.block lb (Array.getElem?_eq_some_iff.1 hlb).1).trans hlb
  simp only [Nat.add_zero] at lt0
  have K := Lib.hid (And.intro x0 (And.intro x1 (And.intro xl (And.intro na0 (And.intro na1 hna)))))
  have KL := Lib.hid (And.intro lt0 (And.intro lt1 (Array.getElem?_eq_some_iff.1 xl).1))
  have HT0 := Lib.hid hT0
  have HST := Lib.hid hst
  have HBA := Lib.hid hBa
  have HW := Lib.hid hw1
  clear h hB hlb bx hst hT0 hBa D0 na0 na1 lt0 lt1 x0 x1 xl hna hw1
  go_enter_defers Tryz.func48, Tryz.ntmps48
  go_upto_region 3 with (fail)
  rw [← HW.out]
  go_loopw [10] (fun i wr => ∃ (k : Nat) (D' : Dm), k ≤ m ∧ i = .int .i64 k ∧ S k wr D' ∧ Trans w1 D wr D') (fun i _ => n - (intOf i).toNat)
  case atStart => exact ⟨0, D, Nat.zero_le _, rfl, HST.out, (Trans.below (Below.refl _ _))⟩
  case round =>
    obtain ⟨k, D', hk, rfl, hs, ht⟩ := hrel
    have HBA' := Lib.hid (HBA.out.trans ht)
    have r0 := rowOf_of ((ht.keep _ KL.out.1 K.out.2.2.2.1).1.trans K.out.1)
    have x1 := (ht.keep _ KL.out.2.1 K.out.2.2.2.2.1).1.trans K.out.2.1
    have r1 := rowOf_of x1
    have s1 := soft_of x1
    have rl := rowOf_of ((ht.keep _ KL.out.2.2 K.out.2.2.2.2.2).1.trans K.out.2.2.1)
    have HS := Lib.hid hs
    have HT := Lib.hid ht
    have ed : D.xb = D'.xb := ht.xb.symm
    have ED := Lib.hid ed
    clear x1 hs ht
    by_cases hlt : k < m
    · have i1 : (k : Int) < n := by omega
      have i2 : k * 80 + 80 ≤ C.size := by rw [hCs]; omega
      have i3 := hCr k (by omega)
      clear hCs
      go_upto_region 5 with (fail)
      have L := Bx.made wr Rc.zero.cells (rs k).cells 119
      generalize (wr.alloc (.cells Rc.zero.cells 119)).setRow wr.heap.size (rs k).cells = V1 at L ⊢
      have nb0 := (HT.out.keep _ KL.out.1 K.out.2.2.2.1).2
      have nb1 := (HT.out.keep _ KL.out.2.1 K.out.2.2.2.2.1).2
      have dae := hS k wr D' HS.out
      have nb2 : ¬ D'.all wr.heap.size := fun q => absurd (dae.all_lt q) (Nat.lt_irrefl _)
      have T1 : Trans w1 D V1 D' := HT.out.trans (Trans.below L.below)
      have S1 := hl k wr V1 D' HS.out L.below
      have LG := hlog k hlt V1 D' S1 (HBA'.out.trans (Trans.below L.below))
      rw [← ed] at LG
      have LG := Lib.hid LG
      clear ed
      have e0 := (T1.keep _ KL.out.1 K.out.2.2.2.1).1.trans K.out.1
      have e1 := (T1.keep _ KL.out.2.1 K.out.2.2.2.2.1).1.trans K.out.2.1
      have l0 : w.heap.size < V1.heap.size := Nat.lt_of_lt_of_le KL.out.1 T1.size
      have l1 : w.heap.size + 1 < V1.heap.size := Nat.lt_of_lt_of_le KL.out.2.1 T1.size
      have l2 : wr.heap.size < V1.heap.size := (Array.getElem?_eq_some_iff.1 L.row).1
      clear r0 r1 s1 rl i2 i3
      have r0 := rowOf_of e0
      have rb := rowOf_of L.row
      have HX := Lib.hid (And.intro e0 (And.intro e1 (And.intro L.row (And.intro nb0 (And.intro nb1 (And.intro nb2 (And.intro l0 (And.intro l1 l2))))))))
      have HT1 := Lib.hid T1
      have HBV := Lib.hid (HBA'.out.trans (Trans.below L.below))
      clear e0 e1 nb0 nb1 nb2 l0 l1 l2 T1 S1 L dae
      go_wp2_with fail
      refine LG.out.mono ?_
      rintro _ V2 ⟨rfl, D2, s2, t2⟩
      have e0 := (t2.keep _ HX.out.2.2.2.2.2.2.1 HX.out.2.2.2.1).1.trans HX.out.1
      have e1 := (t2.keep _ HX.out.2.2.2.2.2.2.2.1 HX.out.2.2.2.2.1).1.trans HX.out.2.1
      have e2 := (t2.keep _ HX.out.2.2.2.2.2.2.2.2 HX.out.2.2.2.2.2.1).1.trans HX.out.2.2.1
      have nb0 := (t2.keep _ HX.out.2.2.2.2.2.2.1 HX.out.2.2.2.1).2
      have nb1 := (t2.keep _ HX.out.2.2.2.2.2.2.2.1 HX.out.2.2.2.2.1).2
      have nb2 := (t2.keep _ HX.out.2.2.2.2.2.2.2.2 HX.out.2.2.2.2.2.1).2
      clear r0 rb LG
      have r1 := rowOf_of e1
      have s1 := soft_of e1
      have hb3 := below_same (k := 0) (v := .int .i64 0) e1 rfl
      have S2 := Lib.hid s2
      have T2 := Lib.hid t2
      have B3 := Lib.hid hb3
      have HY := Lib.hid (And.intro e0 (And.intro e1 (And.intro e2 (And.intro nb0 (And.intro nb1 nb2)))))
      clear e0 e1 e2 nb0 nb1 nb2 s2 t2 hb3
      go_upto_region 7 with (fail)
      generalize V2.setCell ⟨w.heap.size + 1, 0, none⟩ (.int .i64 0) = V3 at B3 ⊢
      have bd : Below V2.heap.size V2 V3.drew := B3.out.drew
      have S3 := hl' k V2 V3.drew D2 S2.out bd
      have T3 := T2.out.trans (Trans.below bd)
      have AP := Lib.hid (happ k hlt V3.drew D2 S3 (HBV.out.trans T3))
      have e0 := (bd.block _ (Array.getElem?_eq_some_iff.1 HY.out.1).1).trans HY.out.1
      have e1 := (bd.block _ (Array.getElem?_eq_some_iff.1 HY.out.2.1).1).trans HY.out.2.1
      have e2 := (bd.block _ (Array.getElem?_eq_some_iff.1 HY.out.2.2.1).1).trans HY.out.2.2.1
      have r0 : rowOf V3 w.heap.size = _ := rowOf_of e0
      have rb : rowOf V3 wr.heap.size = _ := rowOf_of e2
      have rx := rowOf_of (hS' k V3.drew D2 S3).row
      unfold Dm.cells at rx
      have rx : rowOf V3 D2.xb = _ := rx
      rw [show D2.xb = D.xb from T2.out.xb.trans ED.out.symm] at rx
      have HZ := Lib.hid (And.intro e1 (And.intro (Array.getElem?_eq_some_iff.1 e1).1 HY.out.2.2.2.2.1))
      have HT3 := Lib.hid T3
      clear e0 e1 e2 S3 T3 r1 s1 bd
      (refine wp_region_still_tail 5 (by kernel_rfl) (by kernel_rfl) ?_; simp only [List.take_succ_cons, List.take_zero, List.drop_succ_cons, List.drop_zero]; (iterate 5 still_step); refine wpStill_nil ?_)
      refine (show wpList Tryz.prog _ _ _ _ V3.drew from ?_)
      generalize V3.drew = V4 at *
      clear r0 rb rx S2 T2 HY B3
      go_wp2_with fail
      refine AP.out.mono ?_
      rintro _ V5 ⟨rfl, D3, s3, t3⟩
      have e1 := (t3.keep _ HZ.out.2.1 HZ.out.2.2).1.trans HZ.out.1
      have r1 := rowOf_of e1
      have s1 := soft_of e1
      have hb3 := below_same (k := 0) (v := .int .i64 0) e1 rfl
      have S3 := Lib.hid (hl (k + 1) _ _ _ s3 hb3)
      have T3 := Lib.hid (((HT1.out.trans HT3.out).trans t3).trans (Trans.below hb3))
      clear AP e1 s3 t3 hb3 HBV
      go_wp2_with fail
      refine ⟨⟨k + 1, D3, hlt, rfl, S3.out, T3.out⟩, ?_⟩
      show n - ((k : Int) + 1).toNat < n - (k : Int).toNat
      omega
    · obtain rfl : k = m := by omega
      have i1 : (k : Int) < n := by omega
      have i2 : k * 80 + 80 ≤ C.size := by rw [hCs]; omega
      have i3 := hCr k hm
      clear hCs
      go_upto_region 5 with (fail)
      have L := Bx.made wr Rc.zero.cells (rs k).cells 119
      generalize (wr.alloc (.cells Rc.zero.cells 119)).setRow wr.heap.size (rs k).cells = V1 at L ⊢
      have nb0 := (HT.out.keep _ KL.out.1 K.out.2.2.2.1).2
      have nb1 := (HT.out.keep _ KL.out.2.1 K.out.2.2.2.2.1).2
      have T1 : Trans w1 D V1 D' := HT.out.trans (Trans.below L.below)
      have S1 := hl k wr V1 D' HS.out L.below
      have LG := hbad V1 D' S1 (HBA'.out.trans (Trans.below L.below))
      rw [← ed] at LG
      have LG := Lib.hid LG
      clear ed
      have e0 := (T1.keep _ KL.out.1 K.out.2.2.2.1).1.trans K.out.1
      have e1 := (T1.keep _ KL.out.2.1 K.out.2.2.2.2.1).1.trans K.out.2.1
      have l0 : w.heap.size < V1.heap.size := Nat.lt_of_lt_of_le KL.out.1 T1.size
      have l1 : w.heap.size + 1 < V1.heap.size := Nat.lt_of_lt_of_le KL.out.2.1 T1.size
      clear r0 r1 s1 rl i2 i3
      have r0 := rowOf_of e0
      have rb := rowOf_of L.row
      have HX := Lib.hid (And.intro e0 (And.intro e1 (And.intro nb0 (And.intro nb1 (And.intro l0 l1)))))
      have HT1 := Lib.hid T1
      clear e0 e1 nb0 nb1 l0 l1 T1 S1 L
      go_wp2_with fail
      refine LG.out.mono ?_
      rintro _ V2 ⟨rfl, D2, hh, ex, hq, cp⟩
      have k0 := cp.keep _ HX.out.2.2.2.2.1 HX.out.2.2.1
      have k1 := cp.keep _ HX.out.2.2.2.2.2 HX.out.2.2.2.1
      have e0 := k0.1.trans HX.out.1
      have e1 := k1.1.trans HX.out.2.1
      clear r0 rb LG
      have r1 := rowOf_of e1
      have s1 := soft_of e1
      have Z := Lib.hid (And.intro hh (And.intro ex (And.intro hq (And.intro (HT0.out.comp.trans (HT1.out.comp.trans cp)) (And.intro e0 (And.intro e1 (And.intro k0.2 k1.2)))))))
      clear hh ex hq cp e0 e1 k0 k1
      go_wp2_with fail
      obtain ⟨hh, ex, hq, cp, e0, e1, d0, d1⟩ := Z.out
      have zx : D2.xb < V2.heap.size := hh.lt (.inl rfl)
      have ne1 : D.xb ≠ w.heap.size + 1 := fun e => d1 (.inl (e.symm.trans ex.symm))
      have ne0 : D.xb ≠ w.heap.size := fun e => d0 (.inl (e.symm.trans ex.symm))
      have hk : ∀ i, i ≠ w.heap.size + 1 → ((V2.setCell ⟨w.heap.size + 1, 0, none⟩ (.int .i64 9)).setCell ⟨w.heap.size + 1, 0, none⟩ (.int .i64 9)).heap[i]? = V2.heap[i]? := fun i hi => by
        rw [heap_setCell_at, if_neg (Ne.symm hi), heap_setCell_at, if_neg (Ne.symm hi)]
      have f1 : ((V2.setCell ⟨w.heap.size + 1, 0, none⟩ (.int .i64 9)).setCell ⟨w.heap.size + 1, 0, none⟩ (.int .i64 9)).heap[w.heap.size + 1]? = some (.cells #[.int .i64 9] 32) := by
        rw [heap_setCell_at, if_pos rfl, heap_setCell_at, if_pos rfl, e1]
        rfl
      have zs : ((V2.setCell ⟨w.heap.size + 1, 0, none⟩ (.int .i64 9)).setCell ⟨w.heap.size + 1, 0, none⟩ (.int .i64 9)).heap.size = V2.heap.size := by simp [World.setCell]
      have os3 : ((V2.setCell ⟨w.heap.size + 1, 0, none⟩ (.int .i64 9)).setCell ⟨w.heap.size + 1, 0, none⟩ (.int .i64 9)).os = V2.os ∧ ((V2.setCell ⟨w.heap.size + 1, 0, none⟩ (.int .i64 9)).setCell ⟨w.heap.size + 1, 0, none⟩ (.int .i64 9)).tape = V2.tape ∧ ((V2.setCell ⟨w.heap.size + 1, 0, none⟩ (.int .i64 9)).setCell ⟨w.heap.size + 1, 0, none⟩ (.int .i64 9)).output = V2.output := ⟨rfl, rfl, rfl⟩
      generalize (V2.setCell ⟨w.heap.size + 1, 0, none⟩ (.int .i64 9)).setCell ⟨w.heap.size + 1, 0, none⟩ (.int .i64 9) = V at *
      have f0 := (hk w.heap.size (by omega)).trans e0
      have h3 : HalfAt V D2 := hh.keepB fun i hi => hk i fun e => d1 (e ▸ hi)
      have hx := h3.row
      rw [ex] at hx
      refine leaves_cons (f := 68) (args := #[.pointer (some ⟨w.heap.size, 0, none⟩), .pointer (some ⟨w.heap.size + 1, 0, none⟩)]) (by simp) (by simp [go_sem]) ?_
      refine (keep1_down (xb := D.xb) (C := dmC D2.t D2.sv D2.jb D2.bk false) (by rw [rowOf_cell, rowOf_of f0]; rfl) (by rw [rowOf_cell, rowOf_of f1]; rfl) hx rfl).mono ?_
      rintro e u' w'' ⟨rfl, ⟨v, rfl⟩, rfl⟩
      have g1 : rowOf (V.setCell ⟨D.xb, 12, none⟩ (.bool true)).drew (w.heap.size + 1) = #[.int .i64 9] := rowOf_of (by
        show (V.setCell ⟨D.xb, 12, none⟩ (.bool true)).heap[w.heap.size + 1]? = _
        rw [heap_setCell_at, if_neg ne1]
        exact f1)
      have dd : DeadAt (V.setCell ⟨D.xb, 12, none⟩ (.bool true)).drew D2 := by
        have := h3.kill
        rw [ex] at this
        exact ⟨this.row, this.dw.keepB fun _ _ => rfl⟩
      have zw := cp.size
      have cc : Comp w (V.setCell ⟨D.xb, 12, none⟩ (.bool true)).drew D.all (deadP D2) := ⟨os3.1.trans cp.os, os3.2.1.trans cp.tape, os3.2.2.trans cp.output, by show w.heap.size ≤ (V.setCell _ _).heap.size; simp [World.setCell]; omega, fun i hi hn => by
        obtain ⟨c1, c2⟩ := cp.keep i hi hn
        refine ⟨?_, c2⟩
        show (V.setCell ⟨D.xb, 12, none⟩ (.bool true)).heap[i]? = _
        rw [heap_setCell_at, if_neg (fun e : D.xb = i => c2 (.inl (e.symm.trans ex.symm)))]
        exact (hk i (by omega)).trans c1⟩
      simp [Leaves, settle, results, Tryz.results48, go_sem, g1]
      exact ⟨D2, dd, ex, hq, cc⟩
end Go.Proofs.YtjkfondgacjpnaaGreatDoor

namespace Go.Proofs.YtjkfondgacjpnaaGreatDoor
open Go.RowKit
open Sx (Ab DW Turns Did Foot MapIs)
set_option maxRecDepth 100000
attribute [local go_sem ↓] rowOf_cell ebl1 ebl2 ebrDk ebrSk ebd6k ebm5k
attribute [local go_sem] rowOf_alloc soft_alloc rowOf_drew soft_drew rowOf_setRow soft_setRow frozen_of_soft Ext.row Ext.soft_ rOf_D rOf_S rcD_eq rcS_eq
section
variable {w : World} {D : Dm} {n : Cl} {i peer : Int} {p g : Lg}
set_option maxHeartbeats 2000000 in
theorem propose_down (h : Dae w D) (hM : D.M = []) (hB : Base w D) (hT : TmK D.t) (hsl : D.seed.length ≤ 64) (hi : I64 i) (hc : errD (proposeD D i peer p g n) = 0) (l1 : (p.a < D.t.least) = False) (l2 : (p.a > D.t.most) = False) (hE : appE D.A D.j 1 (putD (proposeD D i peer p g n)) = 9) : Calls Tryz.prog 26 #[.pointer (some ⟨D.xb, 0, none⟩), .int .i64 i, .int .i64 peer, .agg p.cells, .agg g.cells, .agg n.cells] w fun e w' => e = .returned (.tuple #[.agg Msg.zero.cells, .int .i64 9]) ∧ ∃ D', DeadAt w' D' ∧ D'.xb = D.xb ∧ D' = { D with F := D'.F, A := appA D.A D.j 1 (putD (proposeD D i peer p g n)) } ∧ Comp w w' D.all (deadP D') := by
  unfold proposeD at *
  have H := Lib.hid h
  have HM := Lib.hid hM
  clear hM
  have HB := Lib.hid hB
  have HT := Lib.hid hT
  have HSL := Lib.hid hsl
  have HI := Lib.hid hi
  generalize hs : secretH (D.seed ++ intI i) = s at *
  generalize hd : legsV D.t ⟨i, 1, p, g, sumH s.l, peer⟩ n = d at *
  have HS := Lib.hid hs
  have HD := Lib.hid hd
  have HC := Lib.hid hc
  have HE := Lib.hid hE
  clear h hE hB hT hsl hi hs hd hc
  go_enter Tryz.func26, Tryz.ntmps26
  go_upto_region 1 with (fail)
  have bx := Bxs.new4 w p.cells 26 g.cells 26 n.cells 37 Msg.zero.cells 67
  generalize (((w.alloc (.cells p.cells 26)).alloc (.cells g.cells 26)).alloc (.cells n.cells 37)).alloc (.cells Msg.zero.cells 67) = W at bx ⊢
  have SC := secret_any (H.out.below bx.below) (HB.out.trans (Trans.below bx.below)) HSL.out HI.out
  rw [HS.out] at SC
  have SC := Lib.hid SC
  have BX := Lib.hid bx
  clear bx
  go_wp2_with fail
  refine SC.out.mono ?_
  rintro _ W2 ⟨rfl, hb⟩
  have bx := BX.out.step hb
  clear BX SC hb
  have BX := Lib.hid bx
  clear bx
  go_upto_region 2 with (fail)
  have LW := Lib.hid BX.out.below.size
  have L := Bx.made W2 Hs.zero.cells s.cells 65
  generalize (W2.alloc (.cells Hs.zero.cells 65)).setRow W2.heap.size s.cells = W3 at L ⊢
  have bx := BX.out.step L.below
  clear BX
  have rx0 := bx.row' 0 rfl
  have rx1 := bx.row' 1 rfl
  have rx2 := bx.row' 2 rfl
  have lt0 := bx.lt 0 rfl
  have lt1 := bx.lt 1 rfl
  have lt2 := bx.lt 2 rfl
  simp only [Nat.add_zero] at rx0 lt0
  have rs := L.rowOf
  have lts := (Array.getElem?_eq_some_iff.1 L.row).1
  have D3 := H.out.below bx.below
  have B3 := HB.out.trans (Trans.below bx.below)
  have rD := rowOf_of D3.row
  unfold Dm.cells at rD
  have ltx : D.xb < W3.heap.size := D3.lt (.inl rfl)
  have K1 : ∀ g : Ext W3, Calls Tryz.prog 45 #[.slice (some ⟨W2.heap.size, 0, none⟩) 32 32] g.val (Ret (.agg (sumH s.l).cells) g.val) := fun g =>
    ret_of (Blake_any (B3.tabs.keep (Nat.le_refl _) g.below) (Sl.keep (sl_in rs (h_whole s)) (Nat.le_refl _) g.below) (by decide))
  have K1 := Lib.hid K1
  have K2 : ∀ w : World, Calls Tryz.prog 44 #[.agg D.t.cells, .agg (Dl.cells ⟨i, 1, p, g, sumH s.l, peer⟩), .agg n.cells] w (Ret (.agg d.cells) w) := fun w => by
    have := ret_of (Legs_any HT.out.tm ⟨i, 1, p, g, sumH s.l, peer⟩ n w)
    rw [HD.out] at this
    exact this
  have K2 := Lib.hid K2
  have BX := Lib.hid bx
  have LS := Lib.hid L
  clear bx L D3 B3
  (refine wp_region_lay_tail 14 13 (fun N => .pointer (some ⟨N, 0, none⟩)) (.cells Dl.zero.cells 83) (by kernel_rfl) (by kernel_rfl) ?_; simp only [List.take_succ_cons, List.take_zero, List.drop_succ_cons, List.drop_zero]; (repeat (first | (refine grow_lay rfl (fun _ => rfl) (fun _ _ => (by simp [go_sem])) ?_; simp only [Act.put, List.setIfInBounds_toArray, List.set_cons_succ, List.set_cons_zero]) | (refine grow_step rfl (fun K hK => ?_); go_simp; (first | (refine hK _ ?_; clear hK K) | (apply Exists.intro; refine ⟨fun _ => ?_, hK _ ?_⟩; (first | (go_at_call 45; exact K1.out _) | (go_at_call 44; exact K2.out _)); clear hK K))))); refine (fun N w' hN lN eN ⟨g3, he⟩ => ?_); subst he; have rN := rowOf_of eN; have sN := soft_of eN; clear eN)
  have bw := Below.setRow_ g3.below hN d.cells
  have rd : rowOf (g3.val.setRow N d.cells) N = d.cells := (rowOf_setRow _ _ _ _ sN).trans (if_pos rfl)
  have sd : soft (g3.val.setRow N d.cells) N = true := (soft_setRow _ _ _ _).trans sN
  obtain ⟨td, htd⟩ := soft_spec sd
  rw [rd] at htd
  have ps : PSt w (g3.val.setRow N d.cells) p g n s d W2.heap.size N := ⟨BX.out.step bw, (bw.block _ (Array.getElem?_eq_some_iff.1 LS.out.row).1).trans LS.out.row, ⟨td, htd⟩, LW.out, Nat.le_trans LW.out (Nat.le_trans (Nat.le_of_lt (Array.getElem?_eq_some_iff.1 LS.out.row).1) hN)⟩
  have PS := Lib.hid ps
  clear rx0 rx1 rx2 lt0 lt1 lt2 rs lts rD ltx K1 K2 BX LS bw sd htd ps
  go_frame
  go_upto_region 3 with (fail)
  generalize g3.val.setRow N d.cells = V at *
  clear hN rN sN
  have C := Lib.hid (deal_is HC.out V)
  go_wp2_with fail
  refine C.out.mono ?_
  rintro _ V2 ⟨rfl, hb⟩
  have ps := PS.out.step hb
  clear PS rd C hb
  have rp := ps.bx.row' 0 rfl
  simp only [Nat.add_zero] at rp
  have rD := rowOf_of (H.out.below ps.bx.below).row
  unfold Dm.cells at rD
  have PS := Lib.hid ps
  clear ps
  go_upto_region 8 with (fail)
  go_region
  have ps := PS.out.step (Below.refl _ V2).drew
  have PS2 := Lib.hid ps
  clear rp rD PS ps l1 l2
  generalize V2.drew = V3 at *
  have RM := Lib.hid (room_ok (H.out.below PS2.out.bx.below) i HM.out)
  go_wp2_with fail
  refine RM.out.mono ?_
  rintro _ V4 ⟨rfl, hb⟩
  have ps := PS2.out.step hb
  clear RM hb PS2
  have PS := Lib.hid ps
  clear ps
  have rs := rowOf_of PS.out.rs
  have rd := PS.out.d
  have hdi : d.i = i := by rw [← HD.out]; exact (legsV_i _ _ _).1
  have hdh : d.h = sumH s.l := by rw [← HD.out]; exact (legsV_i _ _ _).2
  have hss : Small s.l := by rw [← HS.out]; exact sumH_small _
  have hsd : Small d.h.l := by rw [hdh]; exact sumH_small _
  have hrc : Rc.cells ⟨1, i, d, Hs.zero, 0, 0, Tv.zero⟩ = (rcD d).cells := by rw [← hdi]; rfl
  have hpm : Msg.cells ⟨1, i, 0, d.p, d.g, d.h⟩ = (proposeM d).cells := by rw [← hdi]; rfl
  have HPM := Lib.hid hpm
  have HDI := Lib.hid hdi
  have hok : dealOk d = true := by
    have := HC.out
    unfold errD at this
    cases hd : dealOk d with
    | true => rfl
    | false => rw [hd] at this; simp at this
  have hb := (Below.refl V4.heap.size V4).alloc (Nat.le_refl _) (.cells ((rcD d).list ++ (rcS i s).list).toArray 119)
  have hbw := PS.out.bx.below.trans (hb.mono PS.out.bx.below.size)
  have na : ∀ j, w.heap.size ≤ j → ¬ D.all j := fun j hj q => by have := H.out.all_lt q; omega
  have KD := keep_down (n := 2) (m := 0) (by decide) (by decide) (Q := fun D' => D' = { D with F := D'.F, A := appA D.A D.j 1 (putD d) }) (rs := fun k => if k = 0 then rcD d else rcS d.i s) (S := fun _ w D' => Dae w D' ∧ D' = D) (S' := fun _ w D' => Dae w D') (fun _ _ _ q => q.1) (fun _ _ _ q => q) (fun _ _ _ _ q hb => ⟨q.1.below hb, q.2⟩) (fun _ _ _ _ q hb => q.below hb) (fun k hk => absurd hk (Nat.not_lt_zero _)) (fun k hk => absurd hk (Nat.not_lt_zero _)) (fun X D' q hB2 => by
    obtain ⟨q1, rfl⟩ := q
    refine (log_down q1 hB2.forms (L := putD d) (fun w hf => Put_D hf hok) (putD_ok hsd).2.2.2 (by have := putD_len d; omega) HE.out).mono ?_
    rintro e w' ⟨he, F', h1, h2⟩
    exact ⟨he, _, h1, rfl, rfl, h2⟩)
    (w := V4.alloc (.cells ((rcD d).list ++ (rcS i s).list).toArray 119)) (D := D) ⟨H.out.below hbw, rfl⟩ (HB.out.trans (Trans.below hbw)) (C := ((rcD d).list ++ (rcS i s).list).toArray) (heap_alloc_new V4 _) (by simp [r_len]) (fun k hk => by
      have hk2 : k = 0 ∨ k = 1 := by omega
      rcases hk2 with rfl | rfl
      · exact sub_at [] (rcD d).list (rcS i s).list rfl (r_len _) rfl
      · show sub _ 80 80 = (rcS d.i s).cells
        rw [hdi]
        exact sub_at (rcD d).list (rcS i s).list [] (r_len _) (r_len _) (by simp)) (na _ PS.out.bx.below.size)
  have KD := Lib.hid KD
  have HW := Lib.hid hbw
  have NA := Lib.hid na
  have ps := PS.out.step hb
  have PS5 := Lib.hid ps
  clear hb hbw na hdi hdh hss hsd hok ps hpm PS
  go_upto_region 11 with (fail)
  go_wp2_with fail
  refine KD.out.mono ?_
  rintro _ Z ⟨rfl, D', q1, qx, qq, q2⟩
  have h3 := PS5.out.bx.rows 3 _ _ rfl
  have b3 : Z.heap[w.heap.size + 3]? = some (.cells Msg.zero.cells 67) := (q2.keep _ (Array.getElem?_eq_some_iff.1 h3).1 (NA.out _ (Nat.le_add_right _ _))).1.trans h3
  have n3 := (q2.keep _ (Array.getElem?_eq_some_iff.1 h3).1 (NA.out _ (Nat.le_add_right _ _))).2
  have rx3 := rowOf_of b3
  have sx3 := soft_of b3
  have Q1 := Lib.hid (And.intro q1 (And.intro qx (And.intro qq n3)))
  have Q2 := Lib.hid ((Comp.below HW.out).trans q2)
  clear q1 q2 qx qq n3 KD PS5 HW rs rd hrc h3 b3
  have hc : rowOf (World.setRow Z (w.heap.size + 1 + 1 + 1) Msg.zero.cells) (w.heap.size + 1 + 1 + 1) = Msg.zero.cells := (rowOf_setRow _ _ _ _ sx3).trans (if_pos rfl)
  have HC3 := Lib.hid hc
  clear hc
  go_wp2_with fail
  refine bodyPost_ret (results_row1 (t := 67) rfl Tryz.underlying67 rfl (by kernel_rfl) _ _ (w.heap.size + 1 + 1 + 1) rfl HC3.out (m_size _)) rfl ?_
  obtain ⟨q1, qx, qq, n3⟩ := Q1.out
  have nx : ∀ j, deadP D' j → j ≠ w.heap.size + 1 + 1 + 1 := fun j hj e => n3 (by rw [← show j = w.heap.size + 3 from e]; exact hj)
  refine ⟨rfl, D', ⟨(heap_setRow_ne _ _ (nx _ (.inl rfl))).trans q1.row, q1.dw.keepB fun j hj => heap_setRow_ne _ _ (nx _ (.inr hj))⟩, qx, qq, ⟨Q2.out.os, Q2.out.tape, Q2.out.output, by have := Q2.out.size; simpa [World.setRow] using this, fun j hj hn => ⟨(heap_setRow_ne _ _ (by omega)).trans (Q2.out.keep j hj hn).1, (Q2.out.keep j hj hn).2⟩⟩⟩
end
end Go.Proofs.YtjkfondgacjpnaaGreatDoor
