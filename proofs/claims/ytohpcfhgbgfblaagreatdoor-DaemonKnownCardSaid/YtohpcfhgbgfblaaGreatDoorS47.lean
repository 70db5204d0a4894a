/- What is proved: parts of the walk and of the plain law, 3 texts in one. No condition but those each law names. -/
import Derived.Test.YtohpcfhgbgfblaaGreatDoorS45
import Derived.Test.YtohpcfhgbgfblaaGreatDoorS46
import Derived.Test.YtohpcfhgbgfblaaGreatDoorS40
import Derived.Lib.AppendZeros
import Derived.Test.YtohpcfhgbgfblaaGreatDoorS37
namespace Go.Proofs.YtohpcfhgbgfblaaGreatDoor
open Go.RowKit
open Sx (Ab DW Turns Did Foot)
set_option maxRecDepth 100000
theorem results_mid {P : Program} {fn : Func} {p u v : Tmp} {d : TypeDesc} {t : TypeId} {n : Nat} (hr : fn.results = #[.tmp u, .cell p t, .tmp v]) (hu : P.underlying t = some d) (hd : d.isRow = true) (hi : (P.info? t).map (·.size) = some n)
    (tmps : Array Value) (w : World) (b : Nat) (hp : tmps.getD p undef = .pointer (some ⟨b, 0, none⟩)) {cs : Array Value} (hc : rowOf w b = cs) (hn : cs.size = n) :
    (results fn tmps).run P w = .ok (.tuple #[tmps.getD u undef, .agg cs, tmps.getD v undef]) w := by
  have h1 := var_row t n hu hd hi w b 0 (by rw [hc]; omega)
  have hp' : tmps[p]?.getD undef = .pointer (some ⟨b, 0, none⟩) := by simpa using hp
  have e : sub (rowOf w b) 0 n = cs := by rw [hc, ← hn]; simp [sub]
  rw [e] at h1
  simp [results, hr, hp', asAddr, h1]
/-- What a Step holds: facts, what is ready, the result's room; the swap. -/
structure StS (w V : World) (f : Fc) (k : Int) (s : Sw) (N : Nat) : Prop where
  bx : Bxs w [(f.cells, 71), (rdC k, 72), (Tv.zero.cells, 67)] V
  rs : V.heap[N]? = some (.cells s.cells 52)
  lN : w.heap.size + 3 ≤ N
theorem StS.step {w V V' : World} {f : Fc} {k : Int} {s : Sw} {N : Nat} (h : StS w V f k s N) (hb : Below V.heap.size V V') : StS w V' f k s N :=
  ⟨h.bx.step hb, (hb.block _ (Array.getElem?_eq_some_iff.1 h.rs).1).trans h.rs, h.lN⟩
theorem StS.drew {w V : World} {f : Fc} {k : Int} {s : Sw} {N : Nat} (h : StS w V f k s N) : StS w V.drew f k s N := ⟨h.bx.drew, h.rs, h.lN⟩
theorem StS.seen {w V : World} {f : Fc} {k : Int} {s : Sw} {N : Nat} (h : StS w V f k s N) (b : Bool) : StS w (V.setCell ⟨w.heap.size, 8, none⟩ (.bool b)) { f with sn := b } k s N := by
  have h1 := h.bx.set (j := 0) rfl 8 (.bool b)
  rw [fc_set8, Nat.add_zero] at h1
  refine ⟨h1, ?_, h.lN⟩
  rw [heap_setCell_at, if_neg (by have := h.lN; omega)]
  exact h.rs
/-- And what the swap becomes. -/
structure StT (w V : World) (f : Fc) (k : Int) (s : Sw) (N : Nat) (s' : Sw) (N' : Nat) : Prop where
  st : StS w V f k s N
  rn : ∃ t, V.heap[N']? = some (.cells s'.cells t)
theorem StT.step {w V V' : World} {f : Fc} {k : Int} {s s' : Sw} {N N' : Nat} (h : StT w V f k s N s' N') (hb : Below V.heap.size V V') : StT w V' f k s N s' N' := by
  obtain ⟨t, ht⟩ := h.rn
  exact ⟨h.st.step hb, t, (hb.block _ (Array.getElem?_eq_some_iff.1 ht).1).trans ht⟩
theorem StT.rowN {w V : World} {f : Fc} {k : Int} {s s' : Sw} {N N' : Nat} (h : StT w V f k s N s' N') : rowOf V N' = s'.cells := by
  obtain ⟨t, ht⟩ := h.rn
  exact rowOf_of ht
attribute [local go_sem ↓] rowOf_cell ebt0 load72
attribute [local go_sem] rowOf_alloc soft_alloc rowOf_drew soft_drew rowOf_setRow soft_setRow rowOf_setCell soft_setCell frozen_of_soft Ext.row Ext.soft_ rd_size rd_3 rd_whole rd_one
section
variable {w : World} {D : Dm} {f : Fc} {i k : Int} {q : En}
set_option maxHeartbeats 2000000 in
theorem step_none (h : Dae w D) (hq : getA D.M i = none) : Calls Tryz.prog 19 #[.pointer (some ⟨D.xb, 0, none⟩), .int .i64 i, .agg f.cells, .agg (rdC k)] w fun e w' => e = .returned (.tuple #[.int .i64 0, .agg Tv.zero.cells, .int .i64 12]) ∧ Below w.heap.size w w' := by
  have H := Lib.hid h
  have HQ := Lib.hid hq
  clear h hq
  go_enter Tryz.func19, Tryz.ntmps19
  go_upto_region 1 with (fail)
  have bx := Bxs.new3 w (f.cells) 71 (rdC k) 72 (Tv.zero.cells) 67; generalize (((w.alloc (.cells (f.cells) 71)).alloc (.cells (rdC k) 72)).alloc (.cells (Tv.zero.cells) 67)) = W at bx ⊢; have rx0 := bx.row' 0 rfl; have sx0 := bx.soft' 0 rfl; (try simp only [Nat.add_zero] at rx0 sx0); have rx1 := bx.row' 1 rfl; have sx1 := bx.soft' 1 rfl; (try simp only [Nat.add_zero] at rx1 sx1); have rx2 := bx.row' 2 rfl; have sx2 := bx.soft' 2 rfl; (try simp only [Nat.add_zero] at rx2 sx2); have BX := Lib.hid bx; clear bx
  have D1 := H.out.below BX.out.below
  have rD := rowOf_of D1.row
  unfold Dm.cells at rD
  have S := Swap_any D1.bok i
  rw [HQ.out] at S
  have S : Calls Tryz.prog 13 #[.pointer (some ⟨D.bk, 0, none⟩), .int .i64 i] W fun e w' => e = .returned (.tuple #[.agg Sw.zero.cells, .bool false]) ∧ Below W.heap.size W w' := S
  have S := Lib.hid S
  clear D1
  go_wp2_with fail
  clear rD
  refine (S.out).mono ?_; rintro _ W2 ⟨rfl, hb⟩; have bx := BX.out.step hb; clear BX hb rx0 sx0 rx1 sx1 rx2 sx2; have rx0 := bx.row' 0 rfl; have sx0 := bx.soft' 0 rfl; (try simp only [Nat.add_zero] at rx0 sx0); have rx1 := bx.row' 1 rfl; have sx1 := bx.soft' 1 rfl; (try simp only [Nat.add_zero] at rx1 sx1); have rx2 := bx.row' 2 rfl; have sx2 := bx.soft' 2 rfl; (try simp only [Nat.add_zero] at rx2 sx2); have BX := Lib.hid bx; clear bx
  go_upto_region 4 with (fail)
  have L := Bx.made W2 Sw.zero.cells Sw.zero.cells 52
  generalize (W2.alloc (.cells Sw.zero.cells 52)).setRow W2.heap.size Sw.zero.cells = W3 at L ⊢
  have bx := BX.out.step L.below
  clear BX rx0 sx0 rx1 sx1 rx2 sx2 S L
  have rx2 := bx.row' 2 rfl
  have sx2 := bx.soft' 2 rfl
  have B := Below.setRow_ bx.below (Nat.le_add_right w.heap.size 2) Tv.zero.cells
  have hc : rowOf (W3.setRow (w.heap.size + 2) Tv.zero.cells) (w.heap.size + 2) = Tv.zero.cells := (rowOf_setRow _ _ _ _ sx2).trans (if_pos rfl)
  clear bx
  go_wp2
  refine bodyPost_ret (results_mid (t := 67) rfl Tryz.underlying67 rfl (by kernel_rfl) _ _ (w.heap.size + 2) rfl hc (t_size _)) rfl ?_
  exact ⟨rfl, B⟩
set_option maxHeartbeats 4000000 in
theorem step_wait (h : Dae w D) (hT : TmK D.t) (hq : getA D.M i = some q) (h1 : q.s.st = 1) (h2 : q.s.kn = false) (h5 : q.s.d.r = 2) (hs : safeE D.t q.s.d f.n = 0) (h3 : f.sn = false) (h4 : (f.pin > 0) = False) (h6 : decide (f.gin ≥ D.t.depth) = false) :
    Calls Tryz.prog 19 #[.pointer (some ⟨D.xb, 0, none⟩), .int .i64 i, .agg f.cells, .agg (rdC k)] w fun e w' => e = .returned (.tuple #[.int .i64 0, .agg Tv.zero.cells, .int .i64 0]) ∧ Below w.heap.size w w' := by
  have H := Lib.hid h
  have HQ := Lib.hid hq
  have NX : ∀ w, Calls Tryz.prog 50 #[.agg D.t.cells, .agg q.s.cells, .agg (Fc.cells { f with sn := false })] w (Ret (.tuple #[.int .i64 0, .agg q.s.cells]) w) := fun w => by
    have := ret_of (next_agreed (f := { f with sn := false }) hT hs h1 h2 rfl h4 h5 h6 w)
    have e : Sw.cells { q.s with st := if false = true then 2 else 1 } = q.s.cells := by
      show Sw.cells { q.s with st := 1 } = _
      rw [← h1]
    rw [e] at this
    exact this
  have NX := Lib.hid NX
  clear h hq hT hs h4 h5 h6
  go_enter Tryz.func19, Tryz.ntmps19
  go_upto_region 1 with (fail)
  have bx := Bxs.new3 w (f.cells) 71 (rdC k) 72 (Tv.zero.cells) 67; generalize (((w.alloc (.cells (f.cells) 71)).alloc (.cells (rdC k) 72)).alloc (.cells (Tv.zero.cells) 67)) = W at bx ⊢; have rx0 := bx.row' 0 rfl; have sx0 := bx.soft' 0 rfl; (try simp only [Nat.add_zero] at rx0 sx0); have rx1 := bx.row' 1 rfl; have sx1 := bx.soft' 1 rfl; (try simp only [Nat.add_zero] at rx1 sx1); have rx2 := bx.row' 2 rfl; have sx2 := bx.soft' 2 rfl; (try simp only [Nat.add_zero] at rx2 sx2); have BX := Lib.hid bx; clear bx
  have D1 := H.out.below BX.out.below
  have rD := rowOf_of D1.row
  unfold Dm.cells at rD
  have S := Swap_any D1.bok i
  rw [HQ.out] at S
  have S : Calls Tryz.prog 13 #[.pointer (some ⟨D.bk, 0, none⟩), .int .i64 i] W fun e w' => e = .returned (.tuple #[.agg q.s.cells, .bool true]) ∧ Below W.heap.size W w' := S
  have S := Lib.hid S
  clear D1
  go_wp2_with fail
  clear rD
  refine (S.out).mono ?_; rintro _ W2 ⟨rfl, hb⟩; have bx := BX.out.step hb; clear BX hb rx0 sx0 rx1 sx1 rx2 sx2; have rx0 := bx.row' 0 rfl; have sx0 := bx.soft' 0 rfl; (try simp only [Nat.add_zero] at rx0 sx0); have rx1 := bx.row' 1 rfl; have sx1 := bx.soft' 1 rfl; (try simp only [Nat.add_zero] at rx1 sx1); have rx2 := bx.row' 2 rfl; have sx2 := bx.soft' 2 rfl; (try simp only [Nat.add_zero] at rx2 sx2); have BX := Lib.hid bx; clear bx
  have LZ := Lib.hid BX.out.below.size
  have LL := Lib.hid (BX.out.lt 2 rfl)
  go_upto_region 6 with (fail)
  have L := Bx.made W2 Sw.zero.cells q.s.cells 52
  generalize (W2.alloc (.cells Sw.zero.cells 52)).setRow W2.heap.size q.s.cells = W3 at L ⊢
  have ss : StS w W3 f k q.s W2.heap.size := ⟨BX.out.step L.below, L.row, LL.out⟩
  generalize W2.heap.size = N1 at ss ⊢
  clear BX rx0 sx0 rx1 sx1 rx2 sx2 S L LZ LL
  have rx0 := ss.bx.row' 0 rfl
  have sx0 := ss.bx.soft' 0 rfl
  simp only [Nat.add_zero] at rx0 sx0
  have rs := rowOf_of ss.rs
  have SS := Lib.hid ss
  clear ss
  go_region
  have ss := (SS.out.seen false).drew
  generalize (W3.setCell ⟨w.heap.size, 8, none⟩ (.bool false)).drew = V at ss ⊢
  clear rx0 sx0 rs SS W3
  have SS := Lib.hid ss
  have rx0 := ss.bx.row' 0 rfl
  have lt0 := ss.bx.lt 0 rfl
  simp only [Nat.add_zero] at rx0 lt0
  have rs := rowOf_of ss.rs
  have lts := (Array.getElem?_eq_some_iff.1 ss.rs).1
  have D3 := H.out.below ss.bx.below
  have rD := rowOf_of D3.row
  unfold Dm.cells at rD
  have ltx : D.xb < V.heap.size := D3.lt (.inl rfl)
  clear ss D3
  go_upto_region 7 with (fail)
  (refine wp_region_lay_tail 12 10 (fun N => .pointer (some ⟨N, 0, none⟩)) (.cells Sw.zero.cells 52) (by kernel_rfl) (by kernel_rfl) ?_; simp only [List.take_succ_cons, List.take_zero, List.drop_succ_cons, List.drop_zero]; (repeat (first | (refine grow_lay rfl (fun _ => rfl) (fun _ _ => (by simp [go_sem])) ?_; simp only [Act.put, List.setIfInBounds_toArray, List.set_cons_succ, List.set_cons_zero]) | (refine grow_step rfl (fun K hK => ?_); go_simp; (first | (refine hK _ ?_; clear hK K) | (apply Exists.intro; refine ⟨fun _ => ?_, hK _ ?_⟩; ((go_at_call 50; exact NX.out _)); clear hK K))))); refine (fun N w' hN lN eN ⟨g, he⟩ => ?_); subst he; have rN := rowOf_of eN; have sN := soft_of eN; clear eN)
  have bw := Below.setRow_ g.below hN q.s.cells
  have rd : rowOf (g.val.setRow N q.s.cells) N = q.s.cells := (rowOf_setRow _ _ _ _ sN).trans (if_pos rfl)
  have sd : soft (g.val.setRow N q.s.cells) N = true := (soft_setRow _ _ _ _).trans sN
  obtain ⟨td, htd⟩ := soft_spec sd
  rw [rd] at htd
  have st : StT w (g.val.setRow N q.s.cells) { f with sn := false } k q.s N1 q.s N := ⟨SS.out.step bw, ⟨td, htd⟩⟩
  have ST := Lib.hid st
  clear rx0 lt0 rs lts rD ltx bw rd sd htd st SS NX
  go_frame
  go_upto_region 8 with (fail)
  generalize g.val.setRow N q.s.cells = V2 at *
  clear hN rN sN
  have rx1 := ST.out.st.bx.row' 1 rfl
  go_wp2_with fail
  refine (sends_wait (D := D)).mono ?_
  rintro _ V3 ⟨rfl, hb⟩
  have st := ST.out.step hb
  clear ST rx1 hb
  have ST := Lib.hid st
  clear st
  go_upto_region 10 with (fail)
  have L := Bx.made V3 Tv.zero.cells Tv.zero.cells 67
  generalize (V3.alloc (.cells Tv.zero.cells 67)).setRow V3.heap.size Tv.zero.cells = V4 at L ⊢
  have st := ST.out.step L.below
  clear ST L
  have rN := st.rowN
  have rs := rowOf_of st.st.rs
  have ltN : N < V4.heap.size := by
    obtain ⟨t, ht⟩ := st.rn
    exact (Array.getElem?_eq_some_iff.1 ht).1
  have lts := (Array.getElem?_eq_some_iff.1 st.st.rs).1
  have ST := Lib.hid st
  clear st
  go_upto_region 14 with (fail)
  (refine wp_region_grow (by kernel_rfl) (by kernel_rfl) ?_; (repeat (go_big_quiet_step (((go_at_call 52; exact Calls.ext_of (ret_same (becomes_sent _ _ _))))))); refine wpQuiet_nil ?_; rintro _ ⟨g4, rfl⟩)
  have st := ST.out.step g4.below
  clear ST rN rs ltN lts
  generalize g4.val = V5 at st ⊢
  clear g4 h1 h2 h3
  have ST := Lib.hid st
  clear st
  go_wp2_with fail
  have K := Lib.hid (keep_nil (H.out.below ST.out.st.bx.below))
  go_loopw [110] (fun i wr => i = .int .i64 0 ∧ wr = V5) (fun _ _ => 0)
  case atStart => exact ⟨rfl, rfl⟩
  case round =>
    obtain ⟨rfl, rfl⟩ := hrel
    go_wp2_with fail
    refine K.out.mono ?_
    rintro _ V6 ⟨rfl, hb⟩
    have bx := ST.out.st.bx.step hb
    clear ST K hb
    have sx2 := bx.soft' 2 rfl
    have rx2 := bx.row' 2 rfl
    have B := Below.setRow_ bx.below (Nat.le_add_right w.heap.size 2) Tv.zero.cells
    have hc : rowOf (V6.setRow (w.heap.size + 2) Tv.zero.cells) (w.heap.size + 2) = Tv.zero.cells := (rowOf_setRow _ _ _ _ sx2).trans (if_pos rfl)
    clear bx
    go_wp2_with fail
    refine (moves_wait _).mono ?_
    rintro _ V7 ⟨rfl, rfl⟩
    go_wp2
    refine bodyPost_ret (results_mid (t := 67) rfl Tryz.underlying67 rfl (by kernel_rfl) _ _ (w.heap.size + 2) rfl hc (t_size _)) rfl ?_
    exact ⟨rfl, B⟩
end
end Go.Proofs.YtohpcfhgbgfblaaGreatDoor

namespace Go.Proofs.YtohpcfhgbgfblaaGreatDoor
open Go.RowKit
open Sx (Ab DW Turns Did Foot)
set_option maxRecDepth 100000
/-- Digests that differ in their first number. -/
def NeH (a b : Hs) : Prop := a.l[0]? ≠ b.l[0]?
def svAt (v : Value) (i : Nat) : Sv := match (agc v)[i]? with | some (.slice a n c) => ⟨a, n, c⟩ | _ => Sv.nil
def tvO (v : Value) : Tv := ⟨svAt v 0, svAt v 1, iAt v 2⟩
theorem tvO_mk (t : Tv) : tvO (.agg t.cells) = t := rfl
def rcO (v : Value) : Rc := rcM (iAt v 1) (iAt v 75) (tvO (.agg (sub (agc v) 77 3)))
theorem rcO_mk (i m : Int) (t : Tv) : rcO (.agg (rcM i m t).cells) = rcM i m t := by
  have e1 : sub (agc (.agg (rcM i m t).cells)) 77 3 = t.cells := r_t (rcM i m t)
  have e3 : iAt (.agg (rcM i m t).cells) 75 = m := by show (match (rcM i m t).cells[75]? with | some (.int _ n) => n | _ => 0) = _; rw [r_75]; rfl
  unfold rcO
  rw [e1, e3, tvO_mk]
  rfl
theorem br4 (w : World) (i m : Int) (t : Tv) : (Instr.build 84 #[(0, .int .i64 3), (1, .int .i64 i), (4, .int .i64 m), (6, .agg t.cells)]).run Tryz.prog w = .ok (.agg (rcM i m t).cells) w := by kernel_rfl
section
variable (w : World) (ρ : Operand → Value) (dst : Option Tmp) (ty : TypeId) (pos : String) (af : Array Edge) (gd : Option (Nat × Bool))
theorem ebrM (A : Act) (x y z : Operand) (hx : A.eval x = .int .i64 (iv (A.eval x))) (hy : A.eval y = .int .i64 (iv (A.eval y))) (hz : A.eval z = .agg (tvO (A.eval z)).cells) :
    (execOp A.eval ⟨dst, .build 84 #[(0, .const (.int .i64 3)), (1, x), (4, y), (6, z)], ty, pos, af, gd⟩).run Tryz.prog w = .ok (.value (.agg (rcM (iv (A.eval x)) (iv (A.eval y)) (tvO (A.eval z))).cells)) w := by
  have h : (Instr.build 84 #[(0, A.eval (.const (.int .i64 3))), (1, .int .i64 (iv (A.eval x))), (4, .int .i64 (iv (A.eval y))), (6, .agg (tvO (A.eval z)).cells)]).run Tryz.prog w = .ok (.agg (rcM (iv (A.eval x)) (iv (A.eval y)) (tvO (A.eval z))).cells) w := br4 w _ _ _
  rw [← hx, ← hy, ← hz] at h
  unfold execOp
  simp only [Sem.run_bind, Sem.run_pure, List.map_toArray, List.map_cons, List.map_nil, h, Result.andThen_ok]
theorem eblM (x : Operand) (hx : ρ x = .agg (rcO (ρ x)).cells) : (execOp ρ ⟨dst, .buildSlice 136 1 #[(0, x)], ty, pos, af, gd⟩).run Tryz.prog w = .ok (.value (.slice (some ⟨w.heap.size, 0, none⟩) 1 1)) (w.alloc (.cells (rcO (ρ x)).cells 84)) := by
  have h := bsl1 w (rcO (ρ x))
  rw [← hx] at h
  unfold execOp
  simp only [Sem.run_bind, Sem.run_pure, List.map_toArray, List.map_cons, List.map_nil, h, Result.andThen_ok]
theorem eeqlne (x y : Operand) (r : TypeId) (hx : ρ x = .agg (hOf (ρ x)).cells) (hy : ρ y = .agg (hOf (ρ y)).cells) (hn : NeH (hOf (ρ x)) (hOf (ρ y))) : (execOp ρ ⟨dst, .binOp .eql 39 x y r, ty, pos, af, gd⟩).run Tryz.prog w = .ok (.value (.bool false)) w := by
  have h := eql_ne hn w
  rw [← hx, ← hy] at h
  unfold execOp
  simp only [Sem.run_bind, Sem.run_pure, h, Result.andThen_ok]
  rw [hx, hy, eqg39 _ _ _ _ _ _ (.inr rfl)]
  simp only [Result.andThen_ok, Sem.run_bind, Sem.run_pure]
  rw [eql_ne hn w]
  rfl
end
/-- A record is appended to no slice. -/
theorem app_rec (V : World) (r : Rc) : ∃ g c w', (Builtin.append_ #[136, 136] 136 #[.slice none 0 0, .slice (some ⟨V.heap.size, 0, none⟩) 1 1]).run Tryz.prog (V.alloc (.cells r.cells 84)) = .ok (.slice (some ⟨g, 0, none⟩) 1 c) w' ∧ Below V.heap.size V w' ∧ 80 ≤ (rowOf w' g).size ∧ sub (rowOf w' g) 0 80 = r.cells := by
  obtain ⟨i, h1, h2, h3, h4⟩ := info_parts (show (Tryz.prog.info? 84).map (fun i => (i.zero, i.size, i.bytes)) = some (some (.agg Rc.zero.cells), 80, 224) by kernel_rfl)
  have hc : ∀ (j : Nat) u, r.list[j]? = some u → (V.alloc (.cells r.cells 84)).cell? ((⟨V.heap.size, 0, none⟩ : Addr).add j) = some u := fun j u hj => by
    rw [add_plain_addr, Nat.zero_add]
    show (V.alloc (.cells r.cells 84)).cell? ⟨V.heap.size, j, none⟩ = some u
    rw [rowOf_cell, rowOf_of (heap_alloc_new V _)]
    simpa [Rc.cells] using hj
  have ho : ∀ u ∈ r.list, u.oneCell' = true := fun u hu => by
    have := r_one r
    unfold ones Rc.cells at this
    rw [List.all_toArray, List.all_eq_true] at this
    exact this u hu
  have hb := (Below.refl V.heap.size V).alloc (Nat.le_refl _) (.cells r.cells 84)
  obtain ⟨g, c, w', hr, hown, hg, _, _⟩ := run_append_lies (P := Tryz.prog) (w := V.alloc (.cells r.cells 84)) 136 136 V.heap.size 84 i (.agg Rc.zero.cells) 80 i.bytes Tryz.underlying136 h1 h2 h3 rfl (by simp [Value.cells, r_size]) (by decide) (.slice none 0 0) 0 [] (World.ownsRow_nil _ _ _ _) ⟨V.heap.size, 0, none⟩ 1 1 r.list (by rw [r_len]) hc ho (by decide) (by decide) (by rw [h4]; decide) hb.size _ rfl
  refine ⟨g, c, w', hr, hb.grown hg hb.size (fun k hk => by cases hk), ?_, ?_⟩
  · rcases hown.2 with ⟨hv, _⟩ | ⟨g', cap, cur, hv, _, hh, hn, _, hs, ht⟩
    · cases hv
    · cases hv
      rw [rowOf_of hh, hs]
      omega
  · rcases hown.2 with ⟨hv, _⟩ | ⟨g', cap, cur, hv, _, hh, hn, _, hs, ht⟩
    · cases hv
    · cases hv
      rw [rowOf_of hh]
      unfold sub Rc.cells
      apply Array.ext'
      rw [Array.toList_extract, List.extract_eq_take_drop, List.drop_zero]
      simpa using ht
theorem wp_app_run {t : TypeId} {w : World} {ops : Array Oper} {rest : List Oper} {o : Oper} {a : Act} {Q : Exit → Act → World → Prop} (hw : Region.wanted o (yielded ops a.tmps) = true) (s x : Operand)
    (ho : o.op = .call { callee := .builtin .append, args := #[s, x], argTypes := #[t, t] }) (vs vx : Value) (hs : a.eval s = vs) (hx : a.eval x = vx)
    (v' : Value) (w' : World) (hr : (Builtin.append_ #[t, t] o.type #[vs, vx]).run Tryz.prog w = .ok v' w') (h : wpList Tryz.prog ops Q rest (a.put o.dst v') w') : wpList Tryz.prog ops Q (o :: rest) a w :=
  wpList_step fun K hK => by
    rw [if_pos hw]
    exact Lib.wp_append_run w s x t t ho vs vx hs hx v' w' hr (hK _ _ h)
attribute [local go_sem ↓] rowOf_cell ebt0 load72 ebrM eblM eeqlne
attribute [local go_sem] rowOf_alloc soft_alloc rowOf_drew soft_drew rowOf_setRow soft_setRow rowOf_setCell soft_setCell frozen_of_soft Ext.row Ext.soft_ rd_size rd_3 rd_whole rd_one tvO_mk rcO_mk
section
variable {w : World} {D : Dm} {f : Fc} {i k : Int} {q : En}
set_option maxHeartbeats 4000000 in
theorem step_many (h : Dae w D) (hB : Tabs w) (hT : TmK D.t) (hq : getA D.M i = some q) (h1 : q.s.st = 1) (h2 : q.s.kn = false) (h5 : q.s.d.r = 2) (hs : safeE D.t q.s.d f.n = 0) (h3 : f.sn = true) (h4 : (f.pin > 0) = False) (h6 : decide (f.gin ≥ D.t.depth) = true)
    (hne : NeH (sumH f.s.l) q.s.d.h) (hi : wi i 1 1073741824 = true) (hk : (k == 0) = false) :
    Calls Tryz.prog 19 #[.pointer (some ⟨D.xb, 0, none⟩), .int .i64 i, .agg f.cells, .agg (rdC k)] w fun e w' => e = .returned (.tuple #[.int .i64 0, .agg Tv.zero.cells, .int .i64 3]) ∧ Below w.heap.size w w' := by
  have H := Lib.hid h
  have HQ := Lib.hid hq
  have HTB := Lib.hid hB
  have HNE := Lib.hid hne
  obtain ⟨s2, hs2⟩ : ∃ s2 : Sw, s2 = { q.s with st := 2 } := ⟨_, rfl⟩
  have NX : ∀ w, Calls Tryz.prog 50 #[.agg D.t.cells, .agg q.s.cells, .agg (Fc.cells { f with sn := false })] w (Ret (.tuple #[.int .i64 1, .agg s2.cells]) w) := fun w => by
    have := ret_of (next_agreed (f := { f with sn := false }) hT hs h1 h2 rfl h4 h5 h6 w)
    rw [hs2]
    exact this
  have PM := Lib.hid (fun w => Put_M (i := i) (mv := 1) (k := k) hi (by decide) hk w)
  have NX := Lib.hid NX
  have hs2k : s2.kn = false := by rw [hs2]; exact h2
  have hs2s : s2.st = 2 := by rw [hs2]
  have E2 := Lib.hid hs2k
  have E3 := Lib.hid hs2s
  clear h hq hT hs h4 h5 h6 hB hne hi hk hs2 hs2k hs2s
  go_enter Tryz.func19, Tryz.ntmps19
  go_upto_region 1 with (fail)
  have bx := Bxs.new3 w (f.cells) 71 (rdC k) 72 (Tv.zero.cells) 67; generalize (((w.alloc (.cells (f.cells) 71)).alloc (.cells (rdC k) 72)).alloc (.cells (Tv.zero.cells) 67)) = W at bx ⊢; have rx0 := bx.row' 0 rfl; have sx0 := bx.soft' 0 rfl; (try simp only [Nat.add_zero] at rx0 sx0); have rx1 := bx.row' 1 rfl; have sx1 := bx.soft' 1 rfl; (try simp only [Nat.add_zero] at rx1 sx1); have rx2 := bx.row' 2 rfl; have sx2 := bx.soft' 2 rfl; (try simp only [Nat.add_zero] at rx2 sx2); have BX := Lib.hid bx; clear bx
  have D1 := H.out.below BX.out.below
  have rD := rowOf_of D1.row
  unfold Dm.cells at rD
  have S := Swap_any D1.bok i
  rw [HQ.out] at S
  have S : Calls Tryz.prog 13 #[.pointer (some ⟨D.bk, 0, none⟩), .int .i64 i] W fun e w' => e = .returned (.tuple #[.agg q.s.cells, .bool true]) ∧ Below W.heap.size W w' := S
  have S := Lib.hid S
  clear D1
  go_wp2_with fail
  clear rD
  refine (S.out).mono ?_; rintro _ W2 ⟨rfl, hb⟩; have bx := BX.out.step hb; clear BX hb rx0 sx0 rx1 sx1 rx2 sx2; have rx0 := bx.row' 0 rfl; have sx0 := bx.soft' 0 rfl; (try simp only [Nat.add_zero] at rx0 sx0); have rx1 := bx.row' 1 rfl; have sx1 := bx.soft' 1 rfl; (try simp only [Nat.add_zero] at rx1 sx1); have rx2 := bx.row' 2 rfl; have sx2 := bx.soft' 2 rfl; (try simp only [Nat.add_zero] at rx2 sx2); have BX := Lib.hid bx; clear bx
  have LZ := Lib.hid BX.out.below.size
  have LL := Lib.hid (BX.out.lt 2 rfl)
  go_upto_region 6 with (fail)
  have L := Bx.made W2 Sw.zero.cells q.s.cells 52
  generalize (W2.alloc (.cells Sw.zero.cells 52)).setRow W2.heap.size q.s.cells = W3 at L ⊢
  have ss : StS w W3 f k q.s W2.heap.size := ⟨BX.out.step L.below, L.row, LL.out⟩
  generalize W2.heap.size = N1 at ss ⊢
  clear BX rx0 sx0 rx1 sx1 rx2 sx2 S L LZ LL
  have rx0 := ss.bx.row' 0 rfl
  have sx0 := ss.bx.soft' 0 rfl
  simp only [Nat.add_zero] at rx0 sx0
  have rs := rowOf_of ss.rs
  have SS := Lib.hid ss
  clear ss
  have lt0 := SS.out.bx.lt 0 rfl
  have lts := (Array.getElem?_eq_some_iff.1 SS.out.rs).1
  simp only [Nat.add_zero] at lt0
  have TB3 := HTB.out.keep (Nat.le_refl _) SS.out.bx.below
  have BK : ∀ g : Ext W3, Calls Tryz.prog 26 #[.slice (some ⟨w.heap.size, 9, none⟩) 32 32] g.val (Ret (.agg (sumH f.s.l).cells) g.val) := fun g =>
    ret_of (Blake_any (TB3.keep (Nat.le_refl _) g.below) (Sl.keep (sl_in rx0 (fc_s f)) (Nat.le_refl _) g.below) (by decide))
  have BK := Lib.hid BK
  clear TB3
  have hne := HNE.out
  (refine wp_region_grow_tail 12 (by kernel_rfl) (by kernel_rfl) ?_; simp only [List.take_succ_cons, List.take_zero, List.drop_succ_cons, List.drop_zero]; (repeat (go_big_quiet_step (((go_at_call 26; exact Calls.ext_of (BK.out _)))))); refine wpQuiet_nil ?_; rintro _ ⟨g0, rfl⟩)
  have ss4 := SS.out.step g0.below
  clear rx0 sx0 rs SS lt0 lts BK hne
  generalize g0.val = W4 at ss4 ⊢
  clear g0
  have rx0 := ss4.bx.row' 0 rfl
  have sx0 := ss4.bx.soft' 0 rfl
  simp only [Nat.add_zero] at rx0 sx0
  have ss := ss4.seen false
  have SS := Lib.hid ss
  clear ss4 ss
  go_upto_region 7 with (fail)
  have ss := SS.out
  clear SS rx0 sx0
  generalize W4.setCell ⟨w.heap.size, 8, none⟩ (.bool false) = V at ss ⊢
  have SS := Lib.hid ss
  have rx0 := ss.bx.row' 0 rfl
  have lt0 := ss.bx.lt 0 rfl
  simp only [Nat.add_zero] at rx0 lt0
  have rs := rowOf_of ss.rs
  have lts := (Array.getElem?_eq_some_iff.1 ss.rs).1
  have D3 := H.out.below ss.bx.below
  have rD := rowOf_of D3.row
  unfold Dm.cells at rD
  have ltx : D.xb < V.heap.size := D3.lt (.inl rfl)
  clear ss D3
  (refine wp_region_lay_tail 12 10 (fun N => .pointer (some ⟨N, 0, none⟩)) (.cells Sw.zero.cells 52) (by kernel_rfl) (by kernel_rfl) ?_; simp only [List.take_succ_cons, List.take_zero, List.drop_succ_cons, List.drop_zero]; (repeat (first | (refine grow_lay rfl (fun _ => rfl) (fun _ _ => (by simp [go_sem])) ?_; simp only [Act.put, List.setIfInBounds_toArray, List.set_cons_succ, List.set_cons_zero]) | (refine grow_step rfl (fun K hK => ?_); go_simp; (first | (refine hK _ ?_; clear hK K) | (apply Exists.intro; refine ⟨fun _ => ?_, hK _ ?_⟩; ((go_at_call 50; exact NX.out _)); clear hK K))))); refine (fun N w' hN lN eN ⟨g, he⟩ => ?_); subst he; have rN := rowOf_of eN; have sN := soft_of eN; clear eN)
  have bw := Below.setRow_ g.below hN s2.cells
  have rd : rowOf (g.val.setRow N s2.cells) N = s2.cells := (rowOf_setRow _ _ _ _ sN).trans (if_pos rfl)
  have sd : soft (g.val.setRow N s2.cells) N = true := (soft_setRow _ _ _ _).trans sN
  obtain ⟨td, htd⟩ := soft_spec sd
  rw [rd] at htd
  have st : StT w (g.val.setRow N s2.cells) { f with sn := false } k q.s N1 s2 N := ⟨SS.out.step bw, ⟨td, htd⟩⟩
  have ST := Lib.hid st
  clear rx0 lt0 rs lts rD ltx bw rd sd htd st SS NX
  go_frame
  go_upto_region 8 with (fail)
  generalize g.val.setRow N s2.cells = V2 at *
  clear hN rN sN
  have D4 := H.out.below ST.out.st.bx.below
  have SL := Lib.hid (sends_lock (k := k) D4 HQ.out)
  clear D4
  have rx1 := ST.out.st.bx.row' 1 rfl
  go_wp2_with fail
  refine SL.out.mono ?_
  rintro _ V3 ⟨rfl, hb⟩
  have st := ST.out.step hb
  clear ST rx1 hb SL
  have ST := Lib.hid st
  clear st
  go_upto_region 10 with (fail)
  have L := Bx.made V3 Tv.zero.cells (tvK k).cells 67
  generalize (V3.alloc (.cells Tv.zero.cells 67)).setRow V3.heap.size (tvK k).cells = V4 at L ⊢
  have st := ST.out.step L.below
  clear ST
  have rN := st.rowN
  have rs := rowOf_of st.st.rs
  have rt := L.rowOf
  have ST := Lib.hid st
  have LT := Lib.hid L
  clear st L
  have hkn := E2.out
  go_upto_region 13 with (fail)
  obtain ⟨ga, ca, V5, hr, hb, hz, hrow⟩ := app_rec V4 (rcM i 1 (tvK k))
  have HB := Lib.hid hb
  clear hb hkn
  have HZ := Lib.hid hz
  have HROW := Lib.hid hrow
  clear hz hrow
  go_wp2_with (at_builtin; refine wp_app_run rfl _ _ rfl _ _ rfl rfl _ _ hr ?_)
  have st := ST.out.step HB.out
  have lga : ga < V5.heap.size := by
    rcases Nat.lt_or_ge ga V5.heap.size with h | h
    · exact h
    · have := HZ.out
      unfold rowOf at this
      rw [Array.getElem?_eq_none h] at this
      simp at this
  clear rN rs rt hr ST LT HB
  have rN := st.rowN
  have rs := rowOf_of st.st.rs
  have ltN : N < V5.heap.size := by
    obtain ⟨t, ht⟩ := st.rn
    exact (Array.getElem?_eq_some_iff.1 ht).1
  have lts := (Array.getElem?_eq_some_iff.1 st.st.rs).1
  have ST := Lib.hid st
  have hst := E3.out
  clear st
  (refine wp_region_grow (by kernel_rfl) (by kernel_rfl) ?_; (repeat (go_big_quiet_step (((go_at_call 52; exact Calls.ext_of (ret_same (becomes_lock _ _))))))); refine wpQuiet_nil ?_; rintro _ ⟨g4, rfl⟩)
  have st := ST.out.step g4.below
  have ega : rowOf g4.val ga = rowOf V5 ga := g4.row _ lga
  have hz := HZ.out
  have hrow := HROW.out
  rw [← ega] at hz hrow
  clear ST rN rs ltN lts HZ HROW lga ega hst
  generalize g4.val = V6 at st hz hrow ⊢
  clear g4 h1 h2 h3
  have ST := Lib.hid st
  clear st
  go_wp2_with fail
  go_loopw [110] (fun i wr => i = .int .i64 0 ∧ wr = V6) (fun _ _ => 0)
  case atStart => exact ⟨rfl, rfl⟩
  case round =>
    obtain ⟨rfl, rfl⟩ := hrel
    go_upto_region 19 with (fail)
    have L := Bx.made wr Rc.zero.cells (rcM i 1 (tvK k)).cells 84
    generalize (wr.alloc (.cells Rc.zero.cells 84)).setRow wr.heap.size (rcM i 1 (tvK k)).cells = V7 at L ⊢
    have rb := L.rowOf
    have bx := ST.out.st.bx.step L.below
    have BX := Lib.hid bx
    clear hz hrow ST L bx
    go_wp2_with fail
    refine (PM.out V7).mono ?_
    rintro _ V8 ⟨rfl, hb⟩
    have bx := BX.out.step hb
    clear BX rb hb
    have sx2 := bx.soft' 2 rfl
    have rx2 := bx.row' 2 rfl
    have B := Below.setRow_ bx.below (Nat.le_add_right w.heap.size 2) Tv.zero.cells
    have hc : rowOf (V8.setRow (w.heap.size + 2) Tv.zero.cells) (w.heap.size + 2) = Tv.zero.cells := (rowOf_setRow _ _ _ _ sx2).trans (if_pos rfl)
    clear bx
    go_wp2
    refine bodyPost_ret (results_mid (t := 67) rfl Tryz.underlying67 rfl (by kernel_rfl) _ _ (w.heap.size + 2) rfl hc (t_size _)) rfl ?_
    exact ⟨rfl, B⟩
end
end Go.Proofs.YtohpcfhgbgfblaaGreatDoor

namespace Go.Proofs.YtohpcfhgbgfblaaGreatDoor
open Go.RowKit
set_option maxRecDepth 100000
namespace Ev
section
variable {α : Type}
/-- A number is counted out before it is used. -/
def fN (n : Nat) (k : Nat → α) : α := match n with
  | 0 => k 0
  | m + 1 => k (m + 1)
theorem fN_eq (n : Nat) (k : Nat → α) : fN n k = k n := by cases n <;> rfl
def fI (x : Int) (k : Int → α) : α := match x with
  | .ofNat n => fN n fun n => k (.ofNat n)
  | .negSucc n => k (.negSucc n)
theorem fI_eq (x : Int) (k : Int → α) : fI x k = k x := by cases x <;> simp [fI, fN_eq]
def fL : List Int → (List Int → α) → α
  | [], k => k []
  | x :: l, k => fI x fun x => fL l fun l => k (x :: l)
theorem fL_eq : ∀ (l : List Int) (k : List Int → α), fL l k = k l
  | [], k => rfl
  | x :: l, k => by unfold fL; rw [fI_eq, fL_eq l]
def evS (m : List Int) (s : ByteArray) (l : List Int) (k : Nat) (K : List Int → α) : α :=
  fL (half rot16V rot12V l (k % 4) (4 + (k % 4 + k / 4) % 4) (8 + (k % 4 + 2 * (k / 4)) % 4) (12 + (k % 4 + 3 * (k / 4)) % 4) (wd m (dg (sb s (2 * k))))) fun l =>
  fL (half rot8V rot7V l (k % 4) (4 + (k % 4 + k / 4) % 4) (8 + (k % 4 + 2 * (k / 4)) % 4) (12 + (k % 4 + 3 * (k / 4)) % 4) (wd m (dg (sb s (2 * k + 1))))) K
theorem evS_eq (m : List Int) (s : ByteArray) (l : List Int) (k : Nat) (K : List Int → α) : evS m s l k K = K (roundStep m s l k) := by unfold evS; rw [fL_eq, fL_eq]; rfl
def evR (m : List Int) (s : ByteArray) (l : List Int) : Nat → (List Int → α) → α
  | 0, K => K l
  | n + 1, K => evR m s l n fun l => evS m s l n K
theorem evR_eq (m : List Int) (s : ByteArray) (l : List Int) : ∀ (n : Nat) (K : List Int → α), evR m s l n K = K (roundN m s l n)
  | 0, K => rfl
  | n + 1, K => by unfold evR; rw [evR_eq m s l n, evS_eq]; rfl
def evP (m P : List Int) : Nat → (List Int → α) → α
  | 0, K => K P
  | n + 1, K => evP m P n fun P => evR m (ordV n) P 8 K
theorem evP_eq (m P : List Int) : ∀ (n : Nat) (K : List Int → α), evP m P n K = K (presN m P n)
  | 0, K => rfl
  | n + 1, K => by unfold evP; rw [evP_eq m P n, evR_eq]; rfl
def evF (F h : List Int) : Nat → (List Int → α) → α
  | 0, K => K h
  | n + 1, K => evF F h n fun h => fL (h.set n (bits .xor .u32 (wd h n) (bits .xor .u32 (wd F n) (wd F (n + 8))))) K
theorem evF_eq (F h : List Int) : ∀ (n : Nat) (K : List Int → α), evF F h n K = K (finN F h n)
  | 0, K => rfl
  | n + 1, K => by unfold evF; rw [evF_eq F h n, fL_eq]; rfl
def evM (l : List Nat) : Nat → (List Int → α) → α
  | 0, K => K z16
  | n + 1, K => evM l n fun m => fL (m.set n (word4 (bd l (4 * n)) (bd l (4 * n + 1)) (bd l (4 * n + 2)) (bd l (4 * n + 3)))) K
theorem evM_eq (l : List Nat) : ∀ (n : Nat) (K : List Int → α), evM l n K = K (mN l n)
  | 0, K => rfl
  | n + 1, K => by unfold evM; rw [evM_eq l n, fL_eq]; rfl
def evT (h : List Int) (l : List Nat) (count : Nat) (last : Bool) (K : List Int → α) : α :=
  evM l 16 fun m => fL h fun h => fL (press2 h count last) fun P0 => evP m P0 10 fun F => evF F h 8 K
theorem evT_eq (h : List Int) (l : List Nat) (count : Nat) (last : Bool) (K : List Int → α) : evT h l count last K = K (takeV h l count last) := by
  unfold evT
  rw [evM_eq, fL_eq, fL_eq, evP_eq, evF_eq]
  rfl
end
end Ev
def nineL : List Nat := 9 :: List.replicate 31 0
def nineH : Hs := ⟨nineL, rfl⟩
theorem pieces_nine : piecesV h0V 0 nineL = takeV h0V (pad64 nineL) 32 true := by
  unfold piecesV
  rw [dif_pos (by decide)]
  rfl
theorem take_nine : Nat.beq (outB (takeV h0V (pad64 nineL) 32 true) 0) 7 = false := by
  rw [← Ev.evT_eq h0V (pad64 nineL) 32 true (fun h => Nat.beq (outB h 0) 7)]
  decide +kernel
theorem outN_0 (h : List Int) : ∀ k, 0 < k → (outN h k)[0]? = some (outB h 0)
  | 1, _ => by simp [outN]
  | k + 2, _ => by
    rw [outN, List.getElem?_set_ne (by omega)]
    exact outN_0 h (k + 1) (by omega)
theorem sum_nine : (sumH nineL).l[0]? ≠ some 7 := by
  show (outN (piecesV h0V 0 nineL) 32)[0]? ≠ some 7
  rw [outN_0 _ 32 (by decide), pieces_nine]
  intro h
  have h := Option.some.inj h
  have := take_nine
  rw [h] at this
  cases this
end Go.Proofs.YtohpcfhgbgfblaaGreatDoor
