/- What is proved: parts of the walk and of the plain law, 1 texts in one. No condition but those each law names. -/
import Derived.Test.YtohpcfhgbgfblaaGreatDoorR45
import Derived.Test.YtohpcfhgbgfblaaGreatDoorR46
namespace Go.Proofs.YtohpcfhgbgfblaaGreatDoor
open Go.RowKit
open Sx (Ab DW Turns Did Foot)
set_option maxRecDepth 100000
theorem s_p (s : Sw) : sub s.cells 2 3 = s.d.p.cells := sub_at [.int .i64 s.d.i, .int .i64 s.d.r] [.int .i64 s.d.p.w, .int .i64 s.d.p.a, .int .i64 s.d.p.u] ([.int .i64 s.d.g.w, .int .i64 s.d.g.a, .int .i64 s.d.g.u] ++ (bts s.d.h.l ++ [.int .i64 s.d.q]) ++ (.int .i64 s.st :: .bool s.kn :: bts s.s.l)) rfl rfl rfl
theorem s_g (s : Sw) : sub s.cells 5 3 = s.d.g.cells := sub_at [.int .i64 s.d.i, .int .i64 s.d.r, .int .i64 s.d.p.w, .int .i64 s.d.p.a, .int .i64 s.d.p.u] [.int .i64 s.d.g.w, .int .i64 s.d.g.a, .int .i64 s.d.g.u] ((bts s.d.h.l ++ [.int .i64 s.d.q]) ++ (.int .i64 s.st :: .bool s.kn :: bts s.s.l)) rfl rfl rfl
theorem s_40 (s : Sw) : s.cells[40]? = some (.int .i64 s.d.q) := by
  have := d_40 s.d
  unfold Dl.cells at this
  unfold Sw.cells Sw.list
  rw [List.getElem?_toArray] at this ⊢
  rw [List.getElem?_append_left (by rw [s.d.len]; decide)]
  exact this
theorem fld26 (w : World) (ρ : Operand → Value) (x : Operand) (dst : Option Tmp) (ty : TypeId) (pos : String) (af : Array Edge) (gd : Option (Nat × Bool)) (h : ρ x = .agg T26.cells) : (execOp ρ ⟨dst, .field 31 x 1, ty, pos, af, gd⟩).run Tryz.prog w = .ok (.value (.int .i64 1000)) w := by
  have hh : (Instr.field 31 (.agg T26.cells) 1).run Tryz.prog w = .ok (.int .i64 1000) w := by kernel_rfl
  unfold execOp
  simp only [Sem.run_bind, h, hh, Result.andThen_ok, Sem.run_pure]
theorem s_40g (s : Sw) (q : 40 < s.cells.size) : s.cells[40]'q = .int .i64 s.d.q := getg (s_40 s) q
attribute [local go_sem ↓] rowOf_cell eeql39 eeql37 hd_0 hd_1 hd_2 s_40 fld26
attribute [local go_sem] rowOf_alloc soft_alloc rowOf_drew soft_drew rowOf_setRow soft_setRow frozen_of_soft Ext.row Ext.soft_ hd_size hd_0g hd_1g hd_2g hd_n seed_lit conv_seed is_h is_l s_p s_g s_40g
set_option maxHeartbeats 4000000 in
theorem hears_ok {w : World} (hf : Forms w) (ht : Tabs w) {q : Hd} (hk : ((q.k : Int) > 1024) = False) {l : List Nat} (hs : Sl w q.ao q.k q.c (bts l)) (hr : Rs (l, 0)) {d : Dl} {R' : List (Int × List Nat)} {v : Int} (e1 : dealOk d = true) (e2 : quoteV T26 d.p.a q.free = (v, 0)) (e3 : ¬ d.g.a < v) (e4 : safeE T26 d q.n = 0) (er : d.r = 2) (eq : d.q = q.peer) (esm : Small d.h.l) {mm : Msg} (hmm : mm = acceptM d)
    (hh : ∀ W D, Lies W D (· = []) [] → Base W D → D.t = T26 → Sl W q.ao q.k q.c (bts l) → Calls Tryz.prog 10 #[.pointer (some ⟨D.xb, 0, none⟩), .int .i64 q.peer, .slice q.ao q.k q.c, .agg q.n.cells, .int .i64 q.free] W fun e w' => ∃ a c', e = .returned (.slice a (putLM mm).length c') ∧ Sl w' a (putLM mm).length c' (bts (putLM mm)) ∧ ∃ D', Lies w' D' (With [] d.i ⟨d, 1, false, Hs.zero⟩) R' ∧ Trans W D w' D') : Calls Tryz.prog 3 #[.agg q.cells] w fun e w' => e = .returned (.bool true) ∧ Below w.heap.size w w' := by
  have HDO := Lib.hid e1
  have HQU := Lib.hid e2
  have HLE := Lib.hid e3
  have HSA := Lib.hid e4
  have HRo := Lib.hid er
  have HPe := Lib.hid eq
  have HSm := Lib.hid esm
  have HSL := Lib.hid hs
  have HR := Lib.hid hr
  have H0 := Lib.hid hh
  have HMM := Lib.hid hmm
  clear hs hr e1 e2 e3 e4 er eq esm hh hmm
  have HF := Lib.hid hf
  have HT := Lib.hid ht
  clear hf ht
  go_enter Tryz.func3, Tryz.ntmps3
  go_upto_region 1 with (fail)
  have bx := Bx.new w (q.cells) 25; generalize w.alloc (.cells (q.cells) 25) = W at bx ⊢; have rx := bx.rowOf; have sx := bx.soft; have BX := Lib.hid bx; clear bx
  have hlt : w.heap.size < W.heap.size := (Array.getElem?_eq_some_iff.1 BX.out.row).1
  have hne : ¬ w.heap.size = W.heap.size := Nat.ne_of_lt hlt
  go_region
  have nx : Bx W q.n.cells 23 ((W.alloc (.cells #[.int .i64 0, .int .i64 0, .int .i64 0] 23)).drew.setRow W.heap.size q.n.cells) := ⟨setRow_heap (W.alloc (.cells #[.int .i64 0, .int .i64 0, .int .i64 0] 23)).drew W.heap.size _ q.n.cells 23 _ (heap_alloc_new W _), Below.setRow_ (below1 W _).drew (Nat.le_refl _) _⟩
  generalize (W.alloc (.cells #[.int .i64 0, .int .i64 0, .int .i64 0] 23)).drew.setRow W.heap.size q.n.cells = V0 at nx ⊢
  have B0 := Lib.hid (BX.out.below.trans (nx.below.mono BX.out.below.size))
  have NX := Lib.hid nx
  have HFV := Lib.hid (HF.out.keep (Nat.le_refl _) B0.out)
  have HTV := Lib.hid (HT.out.keep (Nat.le_refl _) B0.out)
  clear nx rx sx BX hlt hne HF HT
  go_wp2_with fail
  refine (Terms_any V0).mono ?_
  rintro _ W1 ⟨rfl, hb⟩
  have HB := Lib.hid hb
  clear hb
  go_wp2_with fail
  refine (Sx.new_w (seedW W1)).mono ?_
  rintro _ X ⟨bb, oo, F, rfl, hd, hbX, hF⟩
  have O := Lib.hid (open_seed HB.out hd hbX hF)
  clear hd hbX hF
  go_wp2_with fail
  refine O.out.mono ?_
  rintro _ Y ⟨D, rfl, l1, t1, s1, m1⟩
  have L1 := Lib.hid l1
  have M1 := Lib.hid m1
  have T1 := Lib.hid t1
  have S1 := Lib.hid s1
  clear l1 m1 t1 s1 O HB
  have rn := rowOf_of ((M1.out.low.block _ (Array.getElem?_eq_some_iff.1 NX.out.row).1).trans NX.out.row)
  have BY := Lib.hid (B0.out.trans (M1.out.low.mono B0.out.size))
  have HH := Lib.hid (H0.out Y D L1.out (M1.out.base HFV.out HTV.out) T1.out (HSL.out.keep (Nat.le_refl _) BY.out))
  go_upto_region 5 with (fail)
  go_wp2_with fail
  refine HH.out.mono ?_
  rintro _ Z ⟨a2, c2, rfl, s2, D2, l2, t2⟩
  have M2 := Lib.hid (M1.out.trans t2)
  have XE := Lib.hid t2.xb
  have L2 := Lib.hid l2
  have BZ := Lib.hid (B0.out.trans (M2.out.low.mono B0.out.size))
  have FZ := Lib.hid (HFV.out.keep (Nat.le_refl _) M2.out.low)
  have TZ := Lib.hid (HTV.out.keep (Nat.le_refl _) M2.out.low)
  obtain ⟨hid, _, _, _⟩ := accept_ok HDO.out
  have G := MGet_any FZ.out s2 ⟨small_putLM (m := mm) (by rw [HMM.out]; exact HSm.out), by have := putLM_len mm; show (putLM mm).length < 1000000; omega⟩
  rw [mget_legs (m := mm) (.inr (by rw [HMM.out]; rfl)) (by rw [HMM.out]; exact hid)] at G
  have G := Lib.hid G
  clear s2 l2 t2 HH BY hid rn
  go_wp2_with fail
  refine G.out.mono ?_
  rintro _ Z2 ⟨rfl, hb⟩
  have HB := Lib.hid hb
  have hk1 : mm.k = 2 := by rw [HMM.out]; rfl
  clear hb G
  go_upto_region 6 with (fail)
  have bx := Bx.made Z2 Msg.zero.cells mm.cells 41
  generalize (Z2.alloc (.cells Msg.zero.cells 41)).setRow Z2.heap.size mm.cells = Z3 at bx ⊢
  have B3 := HB.out.trans (bx.below.mono HB.out.size)
  have rm := bx.rowOf
  have lm := (Array.getElem?_eq_some_iff.1 bx.row).1
  have BX := Lib.hid bx
  have LW := Lib.hid (L2.out.low B3)
  have BW := Lib.hid (BZ.out.trans (B3.mono BZ.out.size))
  have FW := Lib.hid (FZ.out.keep (Nat.le_refl _) B3)
  have TW := Lib.hid (TZ.out.keep (Nat.le_refl _) B3)
  have nw := (M2.out.low.trans (B3.mono M2.out.low.size)).block _ (Array.getElem?_eq_some_iff.1 NX.out.row).1
  have NW := Lib.hid (nw.trans NX.out.row)
  obtain ⟨be, bm, hq⟩ : ∃ be bm, getA D2.M mm.i = some ⟨be, bm, ⟨d, 1, false, Hs.zero⟩⟩ := by
    obtain ⟨b, m, e⟩ := LW.out.book
    have : mm.i = d.i := by rw [HMM.out]; rfl
    exact ⟨b, m, by rw [e, this]; exact (getA_put _ _ _ _).trans (if_pos rfl)⟩
  have xe : D2.xb = D.xb := XE.out
  have K11 : ∀ X, Below Z3.heap.size Z3 X → Calls Tryz.prog 11 #[.pointer (some ⟨D.xb, 0, none⟩)] X fun e w' => e = .returned (.pointer (some ⟨D2.bk, 0, none⟩)) ∧ w' = X := fun X hX => by
    have := Book_any (LW.out.low hX).dae
    rw [xe] at this
    exact this
  obtain ⟨sw, hsw⟩ : ∃ sw : Sw, sw = ⟨d, 1, false, Hs.zero⟩ := ⟨_, rfl⟩
  have K13 : ∀ X, Below Z3.heap.size Z3 X → Calls Tryz.prog 13 #[.pointer (some ⟨D2.bk, 0, none⟩), .int .i64 mm.i] X fun e w' => e = .returned (.tuple #[.agg sw.cells, .bool true]) ∧ Below X.heap.size X w' := fun X hX => by
    have := Swap_any (LW.out.low hX).dae.bok mm.i
    rw [hq] at this
    rw [hsw]
    exact this
  have K11 := Lib.hid K11
  have K13 := Lib.hid K13
  have HSW := Lib.hid hsw
  have hA : Below Z3.heap.size Z3 Z3.drew := (Below.refl _ Z3).drew
  have hB : Below Z3.heap.size Z3 (Z3.alloc (.cells Sw.zero.cells 52)).drew := (below1 Z3 _).drew
  have HA := Lib.hid hA
  have HBB := Lib.hid hB
  have rA : ∀ X, Below Z3.heap.size Z3 X → rowOf X Z2.heap.size = mm.cells := fun X hX => (BX.out.step hX).rowOf
  have RA := Lib.hid rA
  have hne : ¬ Z2.heap.size = Z3.heap.size := Nat.ne_of_lt lm
  clear B3 bx HB FZ TZ BZ nw hq hsw xe rA hA hB
  go_upto_region 11 with (fail)
  refine wp_mono (Q := fun e a' w' => e = .normal ∧ ∃ N, a' = (⟨#[.agg q.cells, .pointer (some ⟨w.heap.size, 0, none⟩), .bool false, .int .i64 q.peer, .slice q.ao q.k q.c, .pointer (some ⟨W.heap.size, 0, none⟩), .int .i64 q.free, .pointer (some ⟨D.xb, 0, none⟩), .int .i64 0, .pointer (some ⟨Z2.heap.size, 0, none⟩), .int .i64 0, undef, undef, .pointer (some ⟨N, 0, none⟩), .bool true, undef, undef, undef, undef, .pointer (some ⟨w.heap.size, 0, none⟩), .int .i64 q.peer, .pointer (some ⟨w.heap.size, 2, none⟩), .slice q.ao q.k q.c, .pointer (some ⟨w.heap.size, 3, none⟩), .agg q.n.cells, .pointer (some ⟨w.heap.size, 1, none⟩), .int .i64 q.free, .tuple #[.pointer (some ⟨D.xb, 0, none⟩), .int .i64 0], .agg T26.cells, .slice (some ⟨W1.heap.size, 0, none⟩) 4 4, .slice (some ⟨W1.heap.size, 0, none⟩) 4 4, .pointer (some { block := bb, off := oo }), .tuple #[.pointer (some ⟨D.xb, 0, none⟩), .int .i64 0], .pointer (some ⟨D.xb, 0, none⟩), .int .i64 0, .int .i64 0, .bool false, .bool false, .pointer (some ⟨D.xb, 0, none⟩), .bool false, .bool false, .bool false, .slice q.ao q.k q.c, .int .i64 ↑q.k, .bool false, .bool false, undef, undef, undef, undef, undef, undef, undef, undef, undef, .tuple #[.agg mm.cells, .int .i64 0], .pointer (some ⟨D.xb, 0, none⟩), .int .i64 q.peer, .slice q.ao q.k q.c, .agg q.n.cells, .int .i64 q.free, .slice a2 (putLM mm).length c2, .tuple #[.agg mm.cells, .int .i64 0], .agg mm.cells, .int .i64 0, .int .i64 0, .bool false, .pointer (some ⟨Z2.heap.size, 0, none⟩), .int .i64 2, .bool false, undef, undef, undef, undef, undef, undef, undef, undef, undef, undef, undef, undef, undef, undef, undef, undef, undef, undef, undef, undef, undef, undef, undef, .tuple #[.agg sw.cells, .bool true], .pointer (some ⟨D.xb, 0, none⟩), .pointer (some ⟨D2.bk, 0, none⟩), .pointer (some ⟨Z2.heap.size, 1, none⟩), .int .i64 mm.i, .tuple #[.agg sw.cells, .bool true], .agg sw.cells, .bool true, undef, undef, undef, undef, undef, undef, undef, undef, undef, undef, undef, undef, undef, undef, undef, undef, undef, undef, undef, undef, undef, undef, undef, undef, undef, undef, undef, undef, undef, undef, undef, undef, undef, undef, undef, undef, undef, undef, undef, undef, undef, undef, undef, undef, undef, undef, undef, undef, undef, undef, undef, undef, undef, undef, undef, undef, undef, undef, undef, undef, undef, undef, undef, undef, undef, undef, undef, undef, undef, undef, undef, undef, undef, undef, undef, undef, undef, undef, undef, undef, undef, undef, undef, undef, undef, undef, undef, undef, undef, undef, undef, undef, undef, undef, undef, undef, undef, undef, undef, undef, undef, undef, undef, undef, undef, undef, undef, undef], []⟩ : Act) ∧ rowOf w' N = sw.cells ∧ N < w'.heap.size ∧ Below Z3.heap.size Z3 w') ?_ ?_
  rotate_left
  · rintro _ _ U ⟨rfl, N, rfl, rs, ltN, bU⟩
    have BU := Lib.hid bU
    have rm := RA.out U bU
    have lm : Z2.heap.size < U.heap.size := Nat.lt_of_lt_of_le lm bU.size
    clear bU hne K11 K13
    have bi := BU.out
    have NU := (bi.block _ (Array.getElem?_eq_some_iff.1 NW.out).1).trans NW.out
    have rn := rowOf_of NU
    have ln : W.heap.size < U.heap.size := (Array.getElem?_eq_some_iff.1 NU).1
    obtain ⟨q1, q2, q3, q4⟩ := quote26 HQU.out
    have hmp : mm.p = d.p := by rw [HMM.out]; rfl
    have hmg : mm.g = d.g := by rw [HMM.out]; rfl
    have hmh : mm.h = d.h := by rw [HMM.out]; rfl
    have hmk : mm.k = 2 := by rw [HMM.out]; rfl
    have hsd : sw.d = d := by rw [HSW.out]
    have hst : sw.st = 1 := by rw [HSW.out]
    have hsk : sw.kn = false := by rw [HSW.out]
    have K6 : ∀ X, Calls Tryz.prog 6 #[] X (Ret (.agg T26.cells) X) := fun X => ret_of (Terms_any X)
    have K14 : ∀ X, Calls Tryz.prog 14 #[.int .i64 d.p.a, .int .i64 1000] X (Ret (.tuple #[.int .i64 1, .int .i64 0]) X) := fun X => by
      have h := Part_small (a := d.p.a.toNat) (ppm := 1000) (by omega) (by decide) X
      rw [show partV d.p.a.toNat 1000 = 1 from (by unfold partV; omega), Int.toNat_of_nonneg (by omega)] at h
      exact ret_of h
    have K15 : ∀ X, Calls Tryz.prog 15 #[.agg T26.cells, .int .i64 d.p.a, .int .i64 q.free] X (Ret (.tuple #[.int .i64 v, .int .i64 0]) X) := fun X => by
      have := ret_of (Quote_any T26_ok d.p.a q.free X)
      rw [HQU.out] at this
      exact this
    have K16 : ∀ X, Calls Tryz.prog 16 #[.agg T26.cells, .agg d.cells, .agg q.n.cells] X (Ret (.int .i64 0) X) := fun X => by
      have := ret_of (Safe_any T26_ok.tm d q.n X)
      rw [HSA.out] at this
      exact this
    have K8 : ∀ X, Below Z3.heap.size Z3 X → Calls Tryz.prog 8 #[] X (Ret (.bool true) X) := fun X hX => known_ret (FW.out.keep (Nat.le_refl _) hX) (TW.out.keep (Nat.le_refl _) hX)
    have K6 := Lib.hid K6
    have K14 := Lib.hid K14
    have K15 := Lib.hid K15
    have K16 := Lib.hid K16
    have K8 := Lib.hid K8
    have a1 : wrap64 (d.p.a + 10) = d.p.a + 10 := IntWalk.wrap64_in _ (by omega)
    have a2 : wrap64 (d.p.a + 10 + 1) = d.p.a + 11 := by rw [IntWalk.wrap64_in _ (by omega)]; omega
    have a3 : wrap64 (d.p.a + 11 + 5) = v := by rw [IntWalk.wrap64_in _ (by omega)]; omega
    have g1 : (d.g.a ≥ v) = True := eq_true (by have := HLE.out; omega)
    have hdr := HRo.out
    have hdq := HPe.out
    have NUH := Lib.hid NU
    clear bi NU q1 q2 q3 q4
    go_upto_region 12 with (fail)
    (refine wp_region_grow (by kernel_rfl) (by kernel_rfl) ?_; (repeat (go_big_quiet_step ((first | (go_at_call 6; exact Calls.ext_of (K6.out _)) | (go_at_call 14; exact Calls.ext_of (K14.out _)))))); refine wpQuiet_nil ?_; rintro _ ⟨g2, rfl⟩)
    have b2 := BU.out.trans (g2.below.mono BU.out.size)
    have rm := RA.out g2.val b2
    have rs : rowOf g2.val N = sw.cells := by
      have : g2.val.heap[N]? = U.heap[N]? := g2.below.block _ ltN
      unfold rowOf at rs ⊢
      rw [this]
      exact rs
    have nv := (g2.below.block _ (Array.getElem?_eq_some_iff.1 NUH.out).1).trans NUH.out
    have rn := rowOf_of nv
    have ln : W.heap.size < g2.val.heap.size := Nat.lt_of_lt_of_le ln g2.size
    have lm : Z2.heap.size < g2.val.heap.size := Nat.lt_of_lt_of_le lm g2.size
    have ltN : N < g2.val.heap.size := Nat.lt_of_lt_of_le ltN g2.size
    have B2 := Lib.hid b2
    have NVH := Lib.hid nv
    clear b2 nv
    generalize g2.val = V at *
    go_upto_region 13 with (fail)
    (refine wp_region_grow (by kernel_rfl) (by kernel_rfl) ?_; (repeat (go_big_quiet_step ((first | (go_at_call 6; exact Calls.ext_of (K6.out _)) | (go_at_call 15; exact Calls.ext_of (K15.out _)))))); refine wpQuiet_nil ?_; rintro _ ⟨g3, rfl⟩)
    have b3 := B2.out.trans (g3.below.mono B2.out.size)
    have rm := RA.out g3.val b3
    have rs : rowOf g3.val N = sw.cells := by
      have : g3.val.heap[N]? = V.heap[N]? := g3.below.block _ ltN
      unfold rowOf at rs ⊢
      rw [this]
      exact rs
    have nv := (g3.below.block _ (Array.getElem?_eq_some_iff.1 NVH.out).1).trans NVH.out
    have rn := rowOf_of nv
    have ln : W.heap.size < g3.val.heap.size := Nat.lt_of_lt_of_le ln g3.size
    have lm : Z2.heap.size < g3.val.heap.size := Nat.lt_of_lt_of_le lm g3.size
    have ltN : N < g3.val.heap.size := Nat.lt_of_lt_of_le ltN g3.size
    have B3 := Lib.hid b3
    have K88 : ∀ g : Ext g3.val, Calls Tryz.prog 8 #[] g.val (Ret (.bool true) g.val) := fun g => K8.out _ (b3.trans (g.below.mono b3.size))
    have K88 := Lib.hid K88
    clear b3 nv K8 NVH
    generalize g3.val = V2 at *
    go_upto_region 14 with (fail)
    refine wp_region_grow (by kernel_rfl) (Lx.lexB_of (by kernel_rfl) (by kernel_rfl) rfl (by kernel_rfl)) ?_
    simp only [List.append_eq, List.cons_append, List.nil_append]
    repeat (go_big_quiet_step ((first | (go_at_call 6; exact Calls.ext_of (K6.out _)) | (go_at_call 16; exact Calls.ext_of (K16.out _)) | (go_at_call 8; exact Calls.ext_of (K88.out _)))))
    refine wpQuiet_nil ?_
    rintro _ ⟨g4, rfl⟩
    have b4 := B3.out.trans (g4.below.mono B3.out.size)
    have FB := Lib.hid (BW.out.trans (b4.mono BW.out.size))
    clear b4 K88 K6 K15 K16 K14 rm rs rn
    generalize g4.val = X at FB ⊢
    go_wp2
    go_ret
    exact ⟨rfl, FB.out⟩
  go_region_held3 (fun w' => rowOf w' Z2.heap.size = mm.cells) (first | exact rm | exact (RA.out _ HA.out) | exact (RA.out _ HBB.out) | exact rX | exact rX2 | exact rX3)
    (first
      | (go_at_call 11; refine (K11.out _ (by first | exact HA.out | exact HBB.out)).mono ?_; rintro _ _ ⟨rfl, rfl⟩)
      | (go_at_call 13; refine (K13.out Z3.drew HA.out).mono ?_; rintro _ X2 ⟨rfl, hb⟩
         have rX := RA.out X2 (HA.out.trans (hb.mono HA.out.size))
         have FA := Lib.hid (HA.out.trans (hb.mono HA.out.size))
         have rX2 := RA.out (X2.alloc (.cells Sw.zero.cells 52)) (FA.out.alloc FA.out.size _)
         have rX3 := RA.out ((X2.alloc (.cells Sw.zero.cells 52)).setRow X2.heap.size sw.cells) (Below.setRow_ (FA.out.alloc FA.out.size _) FA.out.size _)
         clear hb)
      | (go_at_call 13; refine (K13.out (Z3.alloc (.cells Sw.zero.cells 52)).drew HBB.out).mono ?_; rintro _ X2 ⟨rfl, hb⟩
         have rX := RA.out X2 (HBB.out.trans (hb.mono HBB.out.size))
         have FB := Lib.hid (HBB.out.trans (hb.mono HBB.out.size))
         have rX3 := RA.out (X2.setRow Z3.heap.size sw.cells) (Below.setRow_ FB.out (Nat.le_refl _) _)
         have FR := (hb.block Z3.heap.size (by show Z3.heap.size < (Z3.alloc _).heap.size; simp)).trans (show (Z3.alloc (.cells Sw.zero.cells 52)).drew.heap[Z3.heap.size]? = _ from heap_alloc_new Z3 _)
         have rN := rowOf_of FR
         have sN := soft_of FR
         clear hb FR))
  all_goals first
    | (have bU := Below.setRow_ (FA.out.alloc FA.out.size (.cells Sw.zero.cells 52)) FA.out.size sw.cells
       have rs : rowOf ((X2.alloc (.cells Sw.zero.cells 52)).setRow X2.heap.size sw.cells) X2.heap.size = sw.cells := (rowOf_setRow _ _ _ _ (soft_of (heap_alloc_new X2 _))).trans (if_pos rfl)
       have ltN : X2.heap.size < ((X2.alloc (.cells Sw.zero.cells 52)).setRow X2.heap.size sw.cells).heap.size := by simp [World.setRow]
       clear rX rX2 rX3 FA
       exact ⟨rfl, X2.heap.size, rfl, rs, ltN, bU⟩)
    | (have bU := Below.setRow_ FB.out (Nat.le_refl _) sw.cells
       have rs : rowOf (X2.setRow Z3.heap.size sw.cells) Z3.heap.size = sw.cells := (rowOf_setRow _ _ _ _ sN).trans (if_pos rfl)
       have ltN : Z3.heap.size < (X2.setRow Z3.heap.size sw.cells).heap.size := by
         have h1 := FB.out.size
         obtain ⟨tt, ht⟩ := soft_spec sN
         have := (Array.getElem?_eq_some_iff.1 ht).1
         simp [World.setRow]
         exact this
       clear rX rX3 FB rN sN
       exact ⟨rfl, Z3.heap.size, rfl, rs, ltN, bU⟩)
end Go.Proofs.YtohpcfhgbgfblaaGreatDoor
