/- What is proved: parts of the walk and of the plain law, 3 texts in one. No condition but those each law names. -/
import Derived.Test.YtohpcfhgbgfblaaGreatDoorS43
import Derived.Test.YtohpcfhgbgfblaaGreatDoorS32
import Derived.Lib.SlBytesConst
namespace Go.Proofs.YtohpcfhgbgfblaaGreatDoor
open Go.RowKit
open Sx (Ab DW Turns Did Foot)
set_option maxRecDepth 100000
attribute [local go_sem ↓] rowOf_cell
attribute [local go_sem] rowOf_alloc soft_alloc rowOf_drew soft_drew rowOf_setRow soft_setRow frozen_of_soft Ext.row Ext.soft_
def tmOf (v : Value) : Tm := ⟨iAt v 0, iAt v 1, iAt v 2, iAt v 3, iAt v 4, iAt v 5, iAt v 6, iAt v 7, iAt v 8⟩
def svOf (v : Value) : Sv := match v with
  | .slice a n c => ⟨a, n, c⟩
  | _ => Sv.nil
def pbOf (v : Value) : Nat := match v with
  | .pointer (some a) => a.block
  | _ => 0
theorem tmOf_mk (t : Tm) : tmOf (.agg t.cells) = t := rfl
theorem svOf_mk (a : Option Addr) (n c : Nat) : svOf (.slice a n c) = ⟨a, n, c⟩ := rfl
theorem pbOf_mk (b o : Nat) : pbOf (.pointer (some ⟨b, o, none⟩)) = b := rfl
theorem bdm (w : World) (t : Tm) (s : Sv) (jb bk : Nat) : (Instr.build 80 #[(0, .agg t.cells), (1, .slice s.a s.n s.c), (2, .pointer (some ⟨jb, 0, none⟩)), (3, .pointer (some ⟨bk, 0, none⟩))]).run Tryz.prog w = .ok (.agg (dmC t s jb bk false)) w := by kernel_rfl
theorem ebdm (w : World) (A : Act) (dst : Option Tmp) (ty : TypeId) (pos : String) (af : Array Edge) (gd : Option (Nat × Bool)) (x y z u : Operand) (hx : A.eval x = .agg (tmOf (A.eval x)).cells) (hy : A.eval y = .slice (svOf (A.eval y)).a (svOf (A.eval y)).n (svOf (A.eval y)).c) (hz : A.eval z = .pointer (some ⟨pbOf (A.eval z), 0, none⟩)) (hu : A.eval u = .pointer (some ⟨pbOf (A.eval u), 0, none⟩)) :
    (execOp A.eval ⟨dst, .build 80 #[(0, x), (1, y), (2, z), (3, u)], ty, pos, af, gd⟩).run Tryz.prog w = .ok (.value (.agg (dmC (tmOf (A.eval x)) (svOf (A.eval y)) (pbOf (A.eval z)) (pbOf (A.eval u)) false))) w := by
  have h := bdm w (tmOf (A.eval x)) (svOf (A.eval y)) (pbOf (A.eval z)) (pbOf (A.eval u))
  rw [← hx, ← hy, ← hz, ← hu] at h
  unfold execOp
  simp only [Sem.run_bind, Sem.run_pure, List.map_toArray, List.map_cons, List.map_nil, h, Result.andThen_ok]
attribute [local go_sem ↓] ebdm
attribute [local go_sem] tmOf_mk svOf_mk pbOf_mk
/-- What a new daemon leaves of the world. -/
structure Born (F : Foot) (w : World) (D : Dm) (w' : World) : Prop where
  os : w'.os = w.os
  tape : w'.tape = w.tape
  output : w'.output = w.output
  size : w.heap.size ≤ w'.heap.size
  keep : ∀ i, i < w.heap.size → (∀ x, ¬ F i x) → w'.heap[i]? = w.heap[i]? ∧ ¬ D.all i
theorem born_dae {w W2 W3 X2 : World} {F F' : Foot} {dv : Value} {A' : Ab} {jb : Nat} {j : Jr} {t : Tm} {seed : List Nat} {a1 : Option Addr} {n c1 bk mb : Nat} (hbw : Below w.heap.size w W2) (tb : TB F W2 F' W3) (jd : JD W3 F' dv A' jb j) (hjb : W2.heap.size ≤ jb) (hh : Holds A' j []) (hc : Calm A')
    (own : X2.ownsRow W3.heap.size 5 1 (.slice a1 n c1) n (bts seed)) (bok : BookAt X2 bk mb []) (hb3 : Below W3.heap.size W3 X2) (l1 : W3.heap.size ≤ bk) (l2 : W3.heap.size ≤ mb) (h0 : 0 < n) :
    ∃ D : Dm, D.xb = X2.heap.size ∧ Lies (X2.alloc (.cells (dmC t ⟨a1, n, c1⟩ jb bk false) 80)) D (· = []) [] ∧ D.t = t ∧ D.seed = seed ∧ Born F w D (X2.alloc (.cells (dmC t ⟨a1, n, c1⟩ jb bk false) 80)) := by
  have sl := Sl.own own
  obtain ⟨sb, so, rfl, hsb, _⟩ := sl.at h0
  have ho := own
  obtain ⟨_, ⟨e, _⟩ | ⟨g, cp, cur, e, hg, hgc, _⟩⟩ := ho
  · cases e
  cases e
  have hn : seed.length = n := by rw [← sl.len, bts_length]
  subst hn
  have hal : Below X2.heap.size X2 (X2.alloc (.cells (dmC t ⟨some ⟨sb, 0, none⟩, seed.length, c1⟩ jb bk false) 80)) := (Below.refl _ X2).alloc (Nat.le_refl _) _
  have hz : (X2.alloc (.cells (dmC t ⟨some ⟨sb, 0, none⟩, seed.length, c1⟩ jb bk false) 80)).heap.size = X2.heap.size + 1 := by simp
  have bokl : ∀ i x, FootB bk mb [] i x → i = bk ∨ i = mb := fun i x h => by
    rcases h with h | h | ⟨p, hp, _⟩
    · exact .inl h
    · exact .inr h
    · cases hp
  have lb : bk < X2.heap.size := (Array.getElem?_eq_some_iff.1 bok.ob).1
  have lm : mb < X2.heap.size := bok.lt (x := 0) (.inr (.inl rfl))
  have z3 := hb3.size
  have nsb : sb ≠ bk := fun q => by have := bok.ob; rw [← q, hgc] at this; cases this
  have nsm : sb ≠ mb := fun q => by obtain ⟨es, c, x, _⟩ := bok.mp; rw [← q, hgc] at x; cases x
  let D : Dm := ⟨F', X2.heap.size, jb, bk, mb, sb, c1, t, seed, dv, A', j, [], []⟩
  have hown : ∀ i, D.own i → W3.heap.size ≤ i := fun i hi => by
    rcases hi with hi | hi | hi
    · have hi : i = X2.heap.size := hi
      omega
    · have hi : i = sb := hi
      omega
    · rcases bokl i 0 hi with h | h <;> omega
  refine ⟨D, rfl, ⟨⟨heap_alloc_new X2 _, sl.keep (Nat.le_refl _) hal, (by rw [hz]; show sb < _; omega), (jd.below hb3).below hal, hh, hc, bok.below hal, fun i hi => ?_, ?_⟩, rfl, rfl⟩, rfl, rfl, ?_⟩
  · have := hown i hi
    refine ⟨fun e => ?_, fun x hx => ?_⟩
    · have h1 := jd.lt
      have e : i = jb := e
      omega
    · have := jd.dw.lt hx
      omega
  · refine ⟨fun q => ?_, fun q => ?_, ?_⟩
    · rcases bokl _ 0 q with h | h
      · have h : X2.heap.size = bk := h
        omega
      · have h : X2.heap.size = mb := h
        omega
    · exact (bokl _ 0 q).elim nsb nsm
    · show X2.heap.size ≠ sb
      omega
  · have zw := hbw.size
    have zt := tb.t.size
    refine ⟨hal.os.trans (hb3.os.trans (tb.t.os.trans hbw.os)), hal.tape.trans (hb3.tape.trans (tb.t.tape.trans hbw.tape)), hal.output.trans (hb3.output.trans (tb.t.output.trans hbw.output)), by rw [hz]; omega, fun i hi hn => ⟨?_, fun q => ?_⟩⟩
    · exact (hal.block i (by omega)).trans ((hb3.block i (by omega)).trans ((tb.t.block i (by omega) hn).trans (hbw.block i hi)))
    · rcases q with q | q | ⟨x, hx⟩
      · have := hown i q
        omega
      · have q : i = jb := q
        omega
      · rcases tb.fb i x hx with h | h
        · exact hn x h
        · omega
set_option maxHeartbeats 2000000 in
theorem Open_new {w : World} {F : Foot} {dv : Value} {A A' : Ab} {j : Jr} (H : DW w F dv A) (hA : Ab.Sm A) (ho : openP A = ⟨0, A', j, []⟩) (hh : Holds A' j []) (hc : Calm A') {t : Tm} (hk : TmK t) {b o n c : Nat} {seed : List Nat} (hs : Sl w (some ⟨b, o, none⟩) n c (bts seed)) (h0 : 0 < n) (hn : n ≤ 64) (hb : b < w.heap.size) (hF : ∀ x, ¬ F b x) :
    Calls Tryz.prog 5 #[.agg t.cells, .slice (some ⟨b, o, none⟩) n c, dv] w fun e w' => ∃ D, e = .returned (.tuple #[.pointer (some ⟨D.xb, 0, none⟩), .int .i64 0]) ∧ Lies w' D (· = []) [] ∧ D.t = t ∧ D.seed = seed ∧ Born F w D w' := by
  have HK := Lib.hid hk
  have HH := Lib.hid hh
  have HC := Lib.hid hc
  have HS := Lib.hid hs
  have HF := Lib.hid hF
  have HB := Lib.hid hb
  have HD := Lib.hid H
  have HA := Lib.hid hA
  have HO := Lib.hid ho
  have hn2 : ((n : Int) > 64) = False := eq_false (by omega)
  obtain ⟨db, dof, rfl⟩ := dw_form H
  clear hk hh hc hs hF hb H hA ho
  go_enter Tryz.func5, Tryz.ntmps5
  go_upto_region 1 with (fail)
  have bx := Bx.new w (t.cells) 31; generalize w.alloc (.cells (t.cells) 31) = W at bx ⊢; have rx := bx.rowOf; have sx := bx.soft; have BX := Lib.hid bx; clear bx
  have Q := QCheck_any t W
  rw [HK.out.chk] at Q
  have Q := Lib.hid Q
  go_wp2_with fail
  refine (Q.out).mono ?_; rintro _ W2 ⟨rfl, hb⟩; have bx := BX.out.step hb; clear BX rx sx hb; have rx := bx.rowOf; have sx := bx.soft; have BX := Lib.hid bx; clear bx
  have hbW := BX.out.below
  have O := Lib.hid (Open_ok (HD.out.below hbW) HA.out HO.out)
  clear hbW
  go_wp2_with fail
  refine O.out.mono ?_
  rintro _ W3 ⟨F', jb, ao, cc, L, rfl, jd, tb, hjb, _, _⟩
  have l0 : w.heap.size < W2.heap.size := (Array.getElem?_eq_some_iff.1 BX.out.row).1
  have n0 : ∀ x, ¬ F w.heap.size x := fun x q => absurd (HD.out.lt q) (Nat.lt_irrefl _)
  have rt : rowOf W3.drew w.heap.size = t.cells := rowOf_of ((tb.t.block _ l0 n0).trans BX.out.row)
  have lt3 : w.heap.size < W3.heap.size := Nat.lt_of_lt_of_le l0 tb.t.size
  have hs3 : Sl W3.drew (some ⟨b, o, none⟩) n c (bts seed) := HS.out.block ((tb.t.block b (Nat.lt_of_lt_of_le HB.out BX.out.below.size) HF.out).trans (BX.out.below.block b HB.out))
  have CA := Lib.hid (Clone_any hs3 (by omega))
  have NB := Lib.hid (New_book W3.drew)
  have HS3 := Lib.hid hs3
  have JD := Lib.hid jd
  have TB := Lib.hid tb
  have JB := Lib.hid hjb
  have L0 := Lib.hid l0
  clear jd tb hjb l0 n0 hs3 rx sx O Q
  go_upto_region 9 with (fail)
  have keep : ∀ X : World, Below W3.drew.heap.size W3.drew X → rowOf X w.heap.size = t.cells := fun X hX => by
    have : X.heap[w.heap.size]? = W3.drew.heap[w.heap.size]? := hX.block _ lt3
    unfold rowOf at rt ⊢
    rw [this]
    exact rt
  have KP := Lib.hid keep
  clear keep
  go_region_held3 (fun w' => rowOf w' w.heap.size = t.cells) (first | exact rt | exact r1 | exact r2 | exact r3)
    (first
      | (go_at_call 22; refine CA.out.mono ?_; rintro _ X1 ⟨a1, c1, rfl, hb1, own1⟩
         have r1 := KP.out X1 hb1
         have NA := Lib.hid (New_book X1)
         have O1 := Lib.hid own1
         have B1 := Lib.hid hb1
         clear own1 hb1)
      | (go_at_call 23; refine NA.out.mono ?_; rintro _ X2 ⟨bk, mb, rfl, k1, k2, k3, k4⟩
         have r2 := KP.out X2 (B1.out.trans (k2.mono B1.out.size))
         have r3 := KP.out (X2.alloc (.cells (dmC t ⟨a1, n, c1⟩ jb bk false) 80)) ((B1.out.trans (k2.mono B1.out.size)).alloc (B1.out.trans (k2.mono B1.out.size)).size _)
         have FIN := Lib.hid (And.intro (own_keep O1.out (Nat.le_refl _) k2) (And.intro k1 (And.intro (B1.out.trans (k2.mono B1.out.size)) (And.intro (Nat.le_trans B1.out.size k3) (Nat.le_trans B1.out.size k4)))))
         clear k1 k2 k3 k4)
      | (go_at_call 23; refine NB.out.mono ?_; rintro _ X1 ⟨bk, mb, rfl, k1, k2, k3, k4⟩
         have r1 := KP.out X1 k2
         have CB := Lib.hid (Clone_any (w := X1) (HS3.out.keep (Nat.le_refl _) k2) (by omega))
         have K1 := Lib.hid k1
         have K2 := Lib.hid k2
         have K3 := Lib.hid (And.intro k3 k4)
         clear k1 k2 k3 k4)
      | (go_at_call 22; refine CB.out.mono ?_; rintro _ X2 ⟨a1, c1, rfl, hb1, own1⟩
         have r2 := KP.out X2 (K2.out.trans (hb1.mono K2.out.size))
         have r3 := KP.out (X2.alloc (.cells (dmC t ⟨a1, n, c1⟩ jb bk false) 80)) ((K2.out.trans (hb1.mono K2.out.size)).alloc (K2.out.trans (hb1.mono K2.out.size)).size _)
         have FIN := Lib.hid (And.intro (own_base own1 K2.out.size) (And.intro (K1.out.below hb1) (And.intro (K2.out.trans (hb1.mono K2.out.size)) K3.out)))
         clear own1 hb1))
  all_goals obtain ⟨D, e1, q1, q2, q3, q4⟩ := born_dae (t := t) BX.out.below TB.out JD.out JB.out HH.out HC.out FIN.out.1 FIN.out.2.1 ((Below.refl W3.heap.size W3).drew.trans FIN.out.2.2.1) FIN.out.2.2.2.1 FIN.out.2.2.2.2 h0
  all_goals rw [← e1]
  all_goals generalize X2.alloc _ = Y at *
  all_goals have RES := Lib.hid (And.intro q1 (And.intro q2 (And.intro q3 q4)))
  all_goals clear q1 q2 q3 q4 e1 FIN r1 r2 r3 rt lt3
  all_goals go_upto_region 11 with (fail)
  all_goals go_loopw [43] (fun i wr => i = .int .i64 0 ∧ wr = Y) (fun _ _ => 0)
  case atStart => exact ⟨rfl, rfl⟩
  case round =>
    obtain ⟨rfl, rfl⟩ := hrel
    go_wp2
    refine bodyPost_ret (results_tmp2 rfl _ _ _) rfl ?_
    exact ⟨D, rfl, RES.out⟩
end Go.Proofs.YtohpcfhgbgfblaaGreatDoor

namespace Go.Proofs.YtohpcfhgbgfblaaGreatDoor
open Go.RowKit
open Sx (Ab DW Turns Did Foot)
set_option maxRecDepth 100000
def T26 : Tm := ⟨10, 1000, 5, 100, 1000, 2, 3, 4, 2⟩
theorem T26_ok : TmK T26 := ⟨by kernel_rfl, ⟨by decide, by decide, by decide, by decide⟩, by decide, by decide, by decide⟩
attribute [local go_sem ↓] rowOf_cell
attribute [local go_sem] rowOf_alloc soft_alloc rowOf_drew soft_drew rowOf_setRow soft_setRow frozen_of_soft Ext.row Ext.soft_
theorem T26_lit : (#[Value.int .i64 10, Value.int .i64 1000, Value.int .i64 5, Value.int .i64 100, Value.int .i64 1000, Value.int .i64 2, Value.int .i64 3, Value.int .i64 4, Value.int .i64 2] : Array Value) = T26.cells := rfl
attribute [local go_sem] T26_lit
theorem Terms_any (w : World) : Calls Tryz.prog 6 #[] w fun e w' => e = .returned (.agg T26.cells) ∧ Below w.heap.size w w' := by
  go_enter Tryz.func6, Tryz.ntmps6
  go_upto_region 1 with (fail)
  have bx := Bx.new w (Tm.cells ⟨0, 0, 0, 0, 0, 0, 0, 0, 0⟩) 31
  rw [show (#[Value.int .i64 0, Value.int .i64 0, Value.int .i64 0, Value.int .i64 0, Value.int .i64 0, Value.int .i64 0, Value.int .i64 0, Value.int .i64 0, Value.int .i64 0] : Array Value) = Tm.cells ⟨0, 0, 0, 0, 0, 0, 0, 0, 0⟩ from rfl]
  generalize w.alloc (.cells (Tm.cells ⟨0, 0, 0, 0, 0, 0, 0, 0, 0⟩) 31) = W at bx ⊢
  have rx := bx.rowOf
  have sx := bx.soft
  have BX := Lib.hid bx
  clear bx
  go_wp2
  have hc : rowOf (World.setRow W w.heap.size T26.cells) w.heap.size = T26.cells := (rowOf_setRow _ _ _ _ sx).trans (if_pos rfl)
  refine bodyPost_ret (results_row (t := 31) rfl Tryz.underlying31 rfl (by kernel_rfl) _ _ w.heap.size rfl hc (tm_size _)) rfl ?_
  exact ⟨rfl, Below.setRow_ BX.out.below (Nat.le_refl _) _⟩
def seedL : List Nat := [115, 101, 101, 100]
def seedC : Array Value := #[.int .u8 115, .int .u8 101, .int .u8 101, .int .u8 100]
/-- A slice literal that is made bytes. -/
def seedW (w : World) : World := w.alloc (.cells seedC 5 (4, 5))
theorem conv_seed (w : World) : (convert 22 22 (.slice (some ⟨w.heap.size, 0, none⟩) 4 4)).run Tryz.prog (w.alloc (.cells seedC 5)) = .ok (.slice (some ⟨w.heap.size, 0, none⟩) 4 4) (seedW w) :=
  Go.Lib.run_convert_bytes_const w 22 5 seedC 4 4 Tryz.underlying22 Tryz.underlying5
theorem seed_lit (w : World) : (#[Value.int .u8 115, Value.int .u8 101, Value.int .u8 101, Value.int .u8 100] : Array Value) = seedC := rfl
/-- A world in which a daemon lies that is the call's own. -/
structure Mine (w V : World) (D : Dm) : Prop where
  low : Below w.heap.size w V
  own : ∀ i, i < w.heap.size → ¬ D.all i
theorem Mine.trans {w V V' : World} {D D' : Dm} (h : Mine w V D) (t : Trans V D V' D') : Mine w V' D' :=
  ⟨⟨t.os.trans h.low.os, t.tape.trans h.low.tape, t.output.trans h.low.output, Nat.le_trans h.low.size t.size, fun i hi => (t.keep i (Nat.lt_of_lt_of_le hi h.low.size) (h.own i hi)).1.trans (h.low.block i hi)⟩,
   fun i hi => (t.keep i (Nat.lt_of_lt_of_le hi h.low.size) (h.own i hi)).2⟩
theorem Mine.base {w V : World} {D : Dm} (h : Mine w V D) (hf : Forms w) (ht : Tabs w) : Base V D :=
  let ⟨_, g4⟩ := ht.g4
  let ⟨_, g5⟩ := ht.g5
  ⟨hf.keep (Nat.le_refl _) h.low, ht.keep (Nat.le_refl _) h.low, h.own _ hf.lt, h.own _ (Array.getElem?_eq_some_iff.1 g4).1, h.own _ (Array.getElem?_eq_some_iff.1 g5).1⟩
theorem Book_any {w : World} {D : Dm} (h : Dae w D) : Calls Tryz.prog 11 #[.pointer (some ⟨D.xb, 0, none⟩)] w fun e w' => e = .returned (.pointer (some ⟨D.bk, 0, none⟩)) ∧ w' = w := by
  have rD := rowOf_of h.row
  unfold Dm.cells at rD
  clear h
  go_enter Tryz.func11, Tryz.ntmps11
  go_wp2
  go_ret
  exact ⟨rfl, rfl⟩
theorem eql_h (h : Hs) (w : World) : (binOp .eql 39 (.agg h.cells) (.agg h.cells)).run Tryz.prog w = .ok (.bool true) w := by
  obtain ⟨f, rfl⟩ := h.form
  have e := eq39 f 9998
  rw [hexp_eq]
  simp [go_sem, e]
theorem eeql39 (w : World) (ρ : Operand → Value) (x y : Operand) (dst : Option Tmp) (ty : TypeId) (pos : String) (af : Array Edge) (gd : Option (Nat × Bool)) (r : TypeId) (h1 : ρ x = ρ y) (h2 : IsH (ρ y)) : (execOp ρ ⟨dst, .binOp .eql 39 x y r, ty, pos, af, gd⟩).run Tryz.prog w = .ok (.value (.bool true)) w := by
  obtain ⟨m, hm⟩ := h2
  unfold execOp
  simp only [Sem.run_bind, h1, hm, eqg39 _ _ _ _ _ _ (.inr rfl), Result.andThen_ok, eql_h, Sem.run_pure]
theorem k_deal (h : Hs) : errD (legsV T26 ⟨1, 1, ⟨0, 200, 0⟩, ⟨1, 100, 0⟩, h, 2⟩ ⟨100, 200, 0⟩) = 0 := by kernel_rfl
theorem k_pu (h : Hs) : (legsV T26 ⟨1, 1, ⟨0, 200, 0⟩, ⟨1, 100, 0⟩, h, 2⟩ ⟨100, 200, 0⟩).p.u = 170 := by kernel_rfl
theorem k_gu (h : Hs) : (legsV T26 ⟨1, 1, ⟨0, 200, 0⟩, ⟨1, 100, 0⟩, h, 2⟩ ⟨100, 200, 0⟩).g.u = 230 := by kernel_rfl
/-- The law's daemon is opened. -/
theorem open_seed {w W : World} (hw : Below w.heap.size w W) {X : World} {b o : Nat} {F : Foot} (hd : DW X F (.pointer (some ⟨b, o, none⟩)) Sx.ab0) (hb : Below (seedW W).heap.size (seedW W) X) (hF : ∀ i x, F i x → (seedW W).heap.size ≤ i) :
    Calls Tryz.prog 5 #[.agg T26.cells, .slice (some ⟨W.heap.size, 0, none⟩) 4 4, .pointer (some ⟨b, o, none⟩)] X fun e w' => ∃ D, e = .returned (.tuple #[.pointer (some ⟨D.xb, 0, none⟩), .int .i64 0]) ∧ Lies w' D (· = []) [] ∧ D.t = T26 ∧ D.seed = seedL ∧ Mine w w' D := by
  have hz : (seedW W).heap.size = W.heap.size + 1 := by unfold seedW; simp
  have hbs : Below W.heap.size W (seedW W) := (Below.refl _ W).alloc (Nat.le_refl _) _
  have hbX := hw.trans ((hbs.trans (hb.mono hbs.size)).mono hw.size)
  have hs : Sl (seedW W) (some ⟨W.heap.size, 0, none⟩) 4 4 (bts seedL) := sl_marked W seedC 5 4 W.heap.size (4, 5) rfl rfl
  obtain ⟨A1, ho1, hh1, hc1, _⟩ := open_new (A := Sx.ab0) calm_ab0 sm_ab0 (turnA_z rfl) (turnA_z rfl) (fun k _ _ => rfl)
  have zX := hb.size
  refine (Open_new hd sm_ab0 ho1 hh1 hc1 T26_ok (hs.keep (Nat.le_refl _) hb) (by decide) (by decide) (by omega) (fun x q => by have := hF _ _ q; omega)).mono ?_
  rintro e w' ⟨D, he, h1, h2, h3, h4⟩
  have zw := hw.size
  have nF : ∀ i, i < w.heap.size → ∀ x, ¬ F i x := fun i hi x q => by have := hF _ _ q; omega
  exact ⟨D, he, h1, h2, h3, ⟨⟨h4.os.trans hbX.os, h4.tape.trans hbX.tape, h4.output.trans hbX.output, Nat.le_trans hbX.size h4.size, fun i hi => (h4.keep i (Nat.lt_of_lt_of_le hi hbX.size) (nF i hi)).1.trans (hbX.block i hi)⟩, fun i hi => (h4.keep i (Nat.lt_of_lt_of_le hi hbX.size) (nF i hi)).2⟩⟩
attribute [local go_sem ↓] eeql39
attribute [local go_sem] seed_lit conv_seed is_h
set_option maxHeartbeats 4000000 in
theorem known_any {w : World} (hf : Forms w) (ht : Tabs w) : Calls Tryz.prog 8 #[] w fun e w' => e = .returned (.bool true) ∧ Below w.heap.size w w' := by
  have HF := Lib.hid hf
  have HT := Lib.hid ht
  clear hf ht
  go_enter Tryz.func8, Tryz.ntmps8
  go_wp2_with fail
  refine (Terms_any _).mono ?_
  rintro _ W ⟨rfl, hb⟩
  have HB := Lib.hid hb
  clear hb
  go_wp2_with fail
  refine (Sx.new_w (seedW W)).mono ?_
  rintro _ X ⟨b, o, F, rfl, hd, hbX, hF⟩
  have O := Lib.hid (open_seed HB.out hd hbX hF)
  clear hd hbX hF
  go_wp2_with fail
  refine O.out.mono ?_
  rintro _ Y ⟨D, rfl, l1, t1, s1, m1⟩
  have L1 := Lib.hid l1
  have M1 := Lib.hid m1
  have T1 := Lib.hid t1
  have S1 := Lib.hid s1
  clear l1 m1 t1 s1 O HB
  go_upto_region 5 with (fail)
  rw [show (#[Value.int .i64 100, Value.int .i64 200, Value.int .i64 0] : Array Value) = Cl.cells ⟨100, 200, 0⟩ from rfl]
  have bx := Bx.new Y (Cl.cells ⟨100, 200, 0⟩) 23
  generalize Y.alloc (.cells (Cl.cells ⟨100, 200, 0⟩) 23) = Y1 at bx ⊢
  have rx := bx.rowOf
  have M2 := Lib.hid (M1.out.trans (Trans.below bx.below))
  have L2 := L1.out.low bx.below
  have hc : errD (proposeD D 1 2 ⟨0, 200, 0⟩ ⟨1, 100, 0⟩ ⟨100, 200, 0⟩) = 0 := by unfold proposeD; rw [T1.out]; exact k_deal _
  have P1 := propose_ok (i := 1) (peer := 2) (p := ⟨0, 200, 0⟩) (g := ⟨1, 100, 0⟩) (n := ⟨100, 200, 0⟩) L2 (by decide) (M2.out.base HF.out HT.out) (by rw [T1.out]; exact T26_ok) (by rw [S1.out]; decide) ⟨by decide, by decide⟩ hc (by rw [T1.out]; exact eq_false (by decide)) (by rw [T1.out]; exact eq_false (by decide))
  have hdp : (proposeD D 1 2 ⟨0, 200, 0⟩ ⟨1, 100, 0⟩ ⟨100, 200, 0⟩).p.u = 170 := by unfold proposeD; rw [T1.out]; exact k_pu _
  have hdg : (proposeD D 1 2 ⟨0, 200, 0⟩ ⟨1, 100, 0⟩ ⟨100, 200, 0⟩).g.u = 230 := by unfold proposeD; rw [T1.out]; exact k_gu _
  have hdh : (proposeD D 1 2 ⟨0, 200, 0⟩ ⟨1, 100, 0⟩ ⟨100, 200, 0⟩).h = sumH (secretH (D.seed ++ intI 1)).l := by unfold proposeD; exact (legsV_i _ _ _).2
  generalize secretH (D.seed ++ intI 1) = sx at P1 hdh
  have D5 := Lib.hid L1.out.dae
  have HBX := Lib.hid bx
  generalize hd : proposeD D 1 2 ⟨0, 200, 0⟩ ⟨1, 100, 0⟩ ⟨100, 200, 0⟩ = d at P1 hdp hdg hdh hc
  have HDC := Lib.hid hc
  have HD := Lib.hid hd
  have HP := Lib.hid (And.intro hdp (And.intro hdg hdh))
  have P1 := Lib.hid P1
  clear bx L2 hc hd hdp hdg hdh L1 M1
  go_wp2_with fail
  refine P1.out.mono ?_
  rintro _ Z ⟨rfl, D2, l2, t2⟩
  obtain ⟨be, bm, hM⟩ := l2.book
  have hq : getA D2.M 1 = some ⟨be, bm, ⟨d, 1, true, sx⟩⟩ := by rw [hM]; rfl
  have nb : ¬ D.all Y.heap.size := fun q => by have := D5.out.all_lt q; omega
  have rn : Z.heap[Y.heap.size]? = some (.cells (Cl.cells ⟨100, 200, 0⟩) 23) := (t2.keep _ (Array.getElem?_eq_some_iff.1 HBX.out.row).1 nb).1.trans HBX.out.row
  have HRN := Lib.hid rn
  have HQ := Lib.hid hq
  have L2 := Lib.hid l2
  have T2 := Lib.hid t2
  have M3 := Lib.hid (M2.out.trans t2)
  obtain ⟨mm, hmm⟩ : ∃ mm, mm = proposeM d := ⟨_, rfl⟩
  rw [← hmm]
  have HMM := Lib.hid hmm
  clear hM hq nb rn l2 t2 rx P1 hmm
  go_upto_region 6 with (fail)
  have bx := Bx.made Z Msg.zero.cells mm.cells 41
  generalize (Z.alloc (.cells Msg.zero.cells 41)).setRow Z.heap.size mm.cells = Z1 at bx ⊢
  have B1 := Lib.hid bx
  have rn := rowOf_of ((bx.below.block _ (Array.getElem?_eq_some_iff.1 HRN.out).1).trans HRN.out)
  have l1 := L2.out.low bx.below
  have e1 : proposeD D2 1 2 ⟨0, 200, 0⟩ ⟨1, 100, 0⟩ ⟨100, 200, 0⟩ = d := by rw [← HD.out]; unfold proposeD; rw [T2.out.t, T2.out.seed]
  have P2 := propose_twice (i := 1) (peer := 2) (p := ⟨0, 200, 0⟩) (g := ⟨1, 100, 0⟩) (n := ⟨100, 200, 0⟩) l1.dae ((M3.out.trans (Trans.below bx.below)).base HF.out HT.out) (by rw [T2.out.t, T1.out]; exact T26_ok) (by rw [T2.out.seed, S1.out]; decide) ⟨by decide, by decide⟩ (by rw [e1]; exact HDC.out) (by rw [T2.out.t, T1.out]; exact eq_false (by decide)) (by rw [T2.out.t, T1.out]; exact eq_false (by decide)) (Lib.hid HQ.out)
  rw [T2.out.xb] at P2
  have P2 := Lib.hid P2
  clear bx l1 e1
  go_wp2_with fail
  refine P2.out.mono ?_
  rintro _ Z2 ⟨rfl, hb⟩
  have B1' := Lib.hid (B1.out.step hb)
  clear B1 P2 rn hb
  go_upto_region 7 with (fail)
  have bx := Bx.made Z2 Msg.zero.cells Msg.zero.cells 41
  generalize (Z2.alloc (.cells Msg.zero.cells 41)).setRow Z2.heap.size Msg.zero.cells = Z3 at bx ⊢
  have b3 := B1'.out.step bx.below
  clear B1' bx
  have B3 := Lib.hid b3
  have l3 := L2.out.low b3.below
  have BK := Book_any l3.dae
  rw [T2.out.xb] at BK
  have BK := Lib.hid BK
  have SW := Swap_any l3.dae.bok 1
  rw [HQ.out] at SW
  have SW : Calls Tryz.prog 13 #[.pointer (some ⟨D2.bk, 0, none⟩), .int .i64 1] Z3 fun e w' => e = .returned (.tuple #[.agg (Sw.cells ⟨d, 1, true, sx⟩), .bool true]) ∧ Below Z3.heap.size Z3 w' := SW
  have SW := Lib.hid SW
  clear l3 b3
  go_wp2_with fail
  refine BK.out.mono ?_
  rintro _ _ ⟨rfl, rfl⟩
  go_wp2_with fail
  refine SW.out.mono ?_
  rintro _ Z4 ⟨rfl, hb⟩
  obtain ⟨sw, hsw⟩ : ∃ sw : Sw, sw = ⟨d, 1, true, sx⟩ := ⟨_, rfl⟩
  rw [← hsw]
  have HSW := Lib.hid hsw
  have b4 := B3.out.step hb
  have B4 := Lib.hid b4
  clear hsw b4 hb BK SW B3
  go_upto_region 8 with (fail)
  have bx := Bx.made Z4 Sw.zero.cells sw.cells 52
  generalize (Z4.alloc (.cells Sw.zero.cells 52)).setRow Z4.heap.size sw.cells = Z5 at bx ⊢
  have b5 := B4.out.step bx.below
  have r5 := b5.rowOf
  have r6 := bx.rowOf
  have lt5 := (Array.getElem?_eq_some_iff.1 b5.row).1
  have lt6 := (Array.getElem?_eq_some_iff.1 bx.row).1
  have MF := M3.out.low.trans (b5.below.mono M3.out.low.size)
  have hk1 : sw.kn = true := by rw [HSW.out]
  have hk2 : sw.st = 1 := by rw [HSW.out]
  have hk3 : mm.p.u = 170 := by rw [HMM.out]; exact HP.out.1
  have hk4 : mm.g.u = 230 := by rw [HMM.out]; exact HP.out.2.1
  have hk5 : sumH sw.s.l = mm.h := by rw [HMM.out, HSW.out]; exact HP.out.2.2.symm
  have K : ∀ g : Ext Z5, Calls Tryz.prog 26 #[.slice (some ⟨Z4.heap.size, 43, none⟩) 32 32] g.val (Ret (.agg mm.h.cells) g.val) := fun g => by
    rw [← hk5]
    exact ret_of (Blake_any (HT.out.keep (Nat.le_refl _) (MF.trans (g.below.mono MF.size))) (Sl.keep (sl_in r6 (s_s sw)) (Nat.le_refl _) g.below) (by decide))
  have K := Lib.hid K
  have MF := Lib.hid MF
  clear bx b5 hk5
  (refine wp_region_grow (by kernel_rfl) (by kernel_rfl) ?_; (repeat (go_big_quiet_step (((go_at_call 26; exact Calls.ext_of (K.out _)))))); refine wpQuiet_nil ?_; rintro _ ⟨g, rfl⟩)
  have FB := Lib.hid (MF.out.trans (g.below.mono MF.out.size))
  generalize g.val = V at FB ⊢
  clear K r5 r6 lt5 lt6 hk1 hk2 hk3 hk4
  go_wp2
  go_ret
  exact ⟨rfl, FB.out⟩
end Go.Proofs.YtohpcfhgbgfblaaGreatDoor

namespace Go.Proofs.YtohpcfhgbgfblaaGreatDoor
open Go.RowKit
set_option maxRecDepth 100000
theorem fee26 {a : Int} (h0 : 100 ≤ a) (h1 : a ≤ 1000) : feeV T26 a.toNat = (16, 0) := by
  have hp : partV a.toNat (T26.ppm).toNat = 1 := by show (a.toNat * 1000 + 999999) / 1000000 = 1; omega
  have ht : totV [T26.base, ((1 : Nat) : Int), T26.reserve] = (16, 0) := by kernel_rfl
  have hs : asumV 16 (a.toNat : Nat) = ((16 : Int) + (a.toNat : Nat), (0 : Int)) := by
    unfold asumV
    rw [if_pos]
    unfold aisA
    omega
  unfold feeV
  rw [hp, ht]
  simp only []
  rw [hs]
  simp
theorem quote26' (a free : Int) : quoteV T26 a free = if a < 100 ∨ a > 1000 ∨ a > free then (0, 22) else (a + 16, 0) := by
  unfold quoteV
  by_cases h : a < T26.least ∨ a > T26.most ∨ a > free
  · have h' : a < 100 ∨ a > 1000 ∨ a > free := h
    rw [if_pos h, if_pos h']
  · have h' : ¬ (a < 100 ∨ a > 1000 ∨ a > free) := h
    rw [if_neg h, if_neg h', fee26 (by omega) (by omega)]
    rw [if_neg (by simp)]
/-- A quote in the law's terms. -/
theorem quote26 {a free v : Int} (h : quoteV T26 a free = (v, 0)) : 100 ≤ a ∧ a ≤ 1000 ∧ a ≤ free ∧ v = a + 16 := by
  rw [quote26'] at h
  split at h
  · cases h
  · rename_i q
    injection h with h1 _
    omega
theorem safe_told (t : Tm) (d : Dl) (n : Cl) : safeE t d n = 23 ∨ safeE t d n = 0 := by
  unfold safeE
  split
  · exact .inl rfl
  · exact .inr rfl
theorem takes_told (d : Dl) (n : Cl) (free : Int) : 0 ≤ takesE T26 d n free ∧ takesE T26 d n free ≤ 24 := by
  unfold takesE
  split
  · unfold errD
    split <;> decide
  · split
    · rw [quote26']
      split
      · exact ⟨by show (0 : Int) ≤ 22; decide, by show (22 : Int) ≤ 24; decide⟩
      · exact ⟨by show (0 : Int) ≤ 0; decide, by show (0 : Int) ≤ 24; decide⟩
    · split
      · decide
      · rcases safe_told T26 d n with h | h <;> rw [h] <;> decide
/-- The acceptance of a deal that is right is right. -/
theorem accept_ok {d : Dl} (h : dealOk d = true) : idE d.i (propE (acceptM d)) = 0 ∧ I64 d.i ∧ LgI d.p ∧ LgI d.g := by
  have hin := dealOk_in h
  unfold dealOk legOk at h
  simp only [Bool.and_eq_true] at h
  obtain ⟨h1, _, ⟨h3, h4, h5⟩, ⟨h6, h7, h8⟩, h9, _⟩ := h
  have w1 := of_decide_eq_true h1
  have w3 := of_decide_eq_true h3
  have w4 := of_decide_eq_true h4
  have w5 := of_decide_eq_true h5
  have w6 := of_decide_eq_true h6
  have w7 := of_decide_eq_true h7
  have w8 := of_decide_eq_true h8
  have hne : d.p.w ≠ d.g.w := by simpa using h9
  refine ⟨?_, hin.i.i64, ⟨hin.pw.i64, hin.pa.i64, hin.pu.i64⟩, ⟨hin.gw.i64, hin.ga.i64, hin.gu.i64⟩⟩
  have e1 : legE d.p = 0 := by unfold legE; rw [if_neg (by omega), if_neg (by omega), if_neg (by omega)]
  have e2 : legE d.g = 0 := by unfold legE; rw [if_neg (by omega), if_neg (by omega), if_neg (by omega)]
  unfold idE propE acceptM
  rw [if_neg (by omega), if_neg (by simp only; omega), if_neg (by simp only; omega), if_neg hne, if_neg (by simp)]
theorem small_putC (i c : Int) : Small (putC i c) := ((intI_small _).append (intI_small _)).append (intI_small _)
theorem putC_len (i c : Int) : (putC i c).length ≤ 27 := by
  have h1 := intI_len 3
  have h2 := intI_len i
  have h3 := intI_len c
  unfold putC
  simp only [List.length_append]
  omega
theorem small_legI (l : Lg) : Small (legI l) := ((intI_small _).append (intI_small _)).append (intI_small _)
theorem small_putLM {m : Msg} (h : Small m.h.l) : Small (putLM m) := (((intI_small _).append (intI_small _)).append ((small_legI _).append (small_legI _))).append h
theorem putLM_len (m : Msg) : (putLM m).length ≤ 104 := by
  have h1 := intI_len m.k
  have h2 := intI_len m.i
  have h3 := legI_len m.p
  have h4 := legI_len m.g
  have h5 := m.h.hl
  unfold putLM legsI
  simp only [List.length_append]
  omega
end Go.Proofs.YtohpcfhgbgfblaaGreatDoor
