/- What is proved: parts of the walk and of the plain law, 3 texts in one. No condition but those each law names. -/
import Derived.Test.YtohpcfhgbgfblaaGreatDoorS33
import Derived.Test.YtohpcfhgbgfblaaGreatDoorS25
import Derived.Test.YtohpcfhgbgfblaaGreatDoorS00
import Derived.ArgAppend
namespace Go.Proofs.YtohpcfhgbgfblaaGreatDoor
open Go.RowKit
set_option maxRecDepth 100000
def tmO (v : Value) : Tm := ⟨iAt v 0, iAt v 1, iAt v 2, iAt v 3, iAt v 4, iAt v 5, iAt v 6, iAt v 7, iAt v 8⟩
theorem tmO_mk (t : Tm) : tmO (.agg t.cells) = t := rfl
/-- What is seen of a swap. -/
structure Fc where
  n : Cl
  pin : Int
  gin : Int
  gout : Int
  lost : Int
  back : Int
  sn : Bool
  s : Hs
def Fc.head (f : Fc) : List Value := [.int .i64 f.n.a, .int .i64 f.n.b, .int .i64 f.n.c, .int .i64 f.pin, .int .i64 f.gin, .int .i64 f.gout, .int .i64 f.lost, .int .i64 f.back, .bool f.sn]
def Fc.list (f : Fc) : List Value := f.head ++ bts f.s.l
def Fc.cells (f : Fc) : Array Value := f.list.toArray
def Tm.list (t : Tm) : List Value := [.int .i64 t.base, .int .i64 t.ppm, .int .i64 t.reserve, .int .i64 t.least, .int .i64 t.most, .int .i64 t.depth, .int .i64 t.delay, .int .i64 t.lag, .int .i64 t.fast]
/-- A swap, and what is seen of it. -/
def vwC (t : Tm) (s : Sw) (f : Fc) : Array Value := (t.list ++ (s.list ++ f.list)).toArray
section
variable (t : Tm) (s : Sw) (f : Fc)
theorem fc_len : f.list.length = 41 := by simp [Fc.list, Fc.head, f.s.len]
theorem fc_size : f.cells.size = 41 := by simp [Fc.cells, fc_len]
theorem fc_ones : f.list.all (·.oneCell') = true := by
  unfold Fc.list
  rw [List.all_append, bts_ones]
  rfl
theorem fc_one : ones f.cells = true := by unfold ones Fc.cells; rw [List.all_toArray]; exact fc_ones f
theorem fc_whole : sub f.cells 0 41 = f.cells := sub_at [] f.list [] rfl (fc_len f) (by simp [Fc.cells])
theorem fc_n : sub f.cells 0 3 = f.n.cells := sub_at [] [.int .i64 f.n.a, .int .i64 f.n.b, .int .i64 f.n.c] ([.int .i64 f.pin, .int .i64 f.gin, .int .i64 f.gout, .int .i64 f.lost, .int .i64 f.back, .bool f.sn] ++ bts f.s.l) rfl rfl rfl
theorem fc_s : sub f.cells 9 32 = f.s.cells := sub_at f.head (bts f.s.l) [] rfl f.s.len (by simp [Fc.cells, Fc.list])
theorem fc_6 : f.cells[8]? = some (.bool f.sn) := rfl
theorem fc_6g (q : 8 < f.cells.size) : f.cells[8]'q = .bool f.sn := getg (fc_6 f) q
theorem fc_set8 (b : Bool) : f.cells.setIfInBounds 8 (.bool b) = Fc.cells { f with sn := b } := rfl
theorem s_set41 (v : Int) : s.cells.setIfInBounds 41 (.int .i64 v) = Sw.cells { s with st := v } := by
  obtain ⟨⟨i, r, p, g, h, q⟩, st, kn, e⟩ := s
  obtain ⟨k, rfl⟩ := h.form
  obtain ⟨k2, rfl⟩ := e.form
  kernel_rfl
theorem tl_cells : t.list.toArray = t.cells := rfl
theorem vw_len : (t.list ++ (s.list ++ f.list)).length = 125 := by simp [Tm.list, s_len, fc_len]
theorem vw_size : (vwC t s f).size = 125 := by simp [vwC, Tm.list, s_len, fc_len]
theorem s_ones : s.list.all (·.oneCell') = true := by
  unfold Sw.list
  rw [List.all_append, d_ones, List.all_cons, List.all_cons, bts_ones]
  rfl
theorem vw_one : ones (vwC t s f) = true := by
  unfold ones vwC
  rw [List.all_toArray, List.all_append, List.all_append, s_ones, fc_ones]
  rfl
theorem vw_whole : sub (vwC t s f) 0 125 = vwC t s f := sub_at [] (t.list ++ (s.list ++ f.list)) [] rfl (vw_len t s f) (by simp [vwC])
theorem vw_t : sub (vwC t s f) 0 9 = t.cells := sub_at [] t.list (s.list ++ f.list) rfl rfl (by simp [vwC])
theorem vw_d : sub (vwC t s f) 9 41 = s.d.cells := sub_at t.list s.d.list ((.int .i64 s.st :: .bool s.kn :: bts s.s.l) ++ f.list) rfl s.d.len (by simp [vwC, Sw.list])
theorem vw_n : sub (vwC t s f) 84 3 = f.n.cells := sub_at (t.list ++ s.list) [.int .i64 f.n.a, .int .i64 f.n.b, .int .i64 f.n.c] ([.int .i64 f.pin, .int .i64 f.gin, .int .i64 f.gout, .int .i64 f.lost, .int .i64 f.back, .bool f.sn] ++ bts f.s.l) (by simp [Tm.list, s_len]) rfl (by simp [vwC, Fc.list, Fc.head])
theorem vw_5 : (vwC t s f)[5]? = some (.int .i64 t.depth) := rfl
theorem vw_10 : (vwC t s f)[10]? = some (.int .i64 s.d.r) := rfl
theorem vw_far (k : Nat) {j : Nat} (hj : 84 + k = j) : (vwC t s f)[j]? = f.list[k]? := by
  have := get_right (t.list ++ s.list) f.list k (j := j) (by simp [Tm.list, s_len]; omega)
  rw [List.append_assoc] at this
  exact this
theorem vw_87 : (vwC t s f)[87]? = some (.int .i64 f.pin) := vw_far t s f 3 rfl
theorem vw_88 : (vwC t s f)[88]? = some (.int .i64 f.gin) := vw_far t s f 4 rfl
theorem vw_5g (q : 5 < (vwC t s f).size) : (vwC t s f)[5]'q = .int .i64 t.depth := getg (vw_5 t s f) q
theorem vw_10g (q : 10 < (vwC t s f).size) : (vwC t s f)[10]'q = .int .i64 s.d.r := getg (vw_10 t s f) q
theorem vw_87g (q : 87 < (vwC t s f).size) : (vwC t s f)[87]'q = .int .i64 f.pin := getg (vw_87 t s f) q
theorem vw_88g (q : 88 < (vwC t s f).size) : (vwC t s f)[88]'q = .int .i64 f.gin := getg (vw_88 t s f) q
end
def bAtv (v : Value) (i : Nat) : Bool := match (agc v)[i]? with | some (.bool b) => b | _ => false
def swO2 (v : Value) : Sw := ⟨dOf (.agg (sub (agc v) 0 41)), iAt v 41, bAtv v 42, hOf (.agg (sub (agc v) 43 32))⟩
def fcO2 (v : Value) : Fc := ⟨⟨iAt v 0, iAt v 1, iAt v 2⟩, iAt v 3, iAt v 4, iAt v 5, iAt v 6, iAt v 7, bAtv v 8, hOf (.agg (sub (agc v) 9 32))⟩
theorem swO2_mk (s : Sw) : swO2 (.agg s.cells) = s := by
  have e1 : sub (agc (.agg s.cells)) 0 41 = s.d.cells := s_d s
  have e2 : sub (agc (.agg s.cells)) 43 32 = s.s.cells := s_s s
  have e3 : iAt (.agg s.cells) 41 = s.st := by show (match s.cells[41]? with | some (.int _ n) => n | _ => 0) = _; rw [s_41]
  have e4 : bAtv (.agg s.cells) 42 = s.kn := by show (match s.cells[42]? with | some (.bool b) => b | _ => false) = _; rw [s_42]
  unfold swO2
  rw [e1, e2, e3, e4, dOf_mk, hOf_mk]
theorem fcO2_mk (f : Fc) : fcO2 (.agg f.cells) = f := by
  have e2 : sub (agc (.agg f.cells)) 9 32 = f.s.cells := fc_s f
  unfold fcO2
  rw [e2, hOf_mk]
  rfl
theorem bvw (w : World) (t : Tm) (s : Sw) (f : Fc) : (Instr.build 184 #[(0, .agg t.cells), (1, .agg s.cells), (2, .agg f.cells)]).run Tryz.prog w = .ok (.agg (vwC t s f)) w := by
  obtain ⟨⟨i, r, p, g, h, q⟩, st, kn, e⟩ := s
  obtain ⟨k, rfl⟩ := h.form
  obtain ⟨k2, rfl⟩ := e.form
  obtain ⟨n, a1, a2, a3, a4, a5, b, e2⟩ := f
  obtain ⟨k3, rfl⟩ := e2.form
  kernel_rfl
section
variable (w : World) (ρ : Operand → Value) (x y z : Operand) (dst : Option Tmp) (ty : TypeId) (pos : String) (af : Array Edge) (gd : Option (Nat × Bool))
theorem ebvw (hx : ρ x = .agg (tmO (ρ x)).cells) (hy : ρ y = .agg (swO2 (ρ y)).cells) (hz : ρ z = .agg (fcO2 (ρ z)).cells) :
    (execOp ρ ⟨dst, .build 184 #[(0, x), (1, y), (2, z)], ty, pos, af, gd⟩).run Tryz.prog w = .ok (.value (.agg (vwC (tmO (ρ x)) (swO2 (ρ y)) (fcO2 (ρ z))))) w := by
  have h := bvw w (tmO (ρ x)) (swO2 (ρ y)) (fcO2 (ρ z))
  rw [← hx, ← hy, ← hz] at h
  unfold execOp
  simp only [Sem.run_bind, Sem.run_pure, List.map_toArray, List.map_cons, List.map_nil, h, Result.andThen_ok]
theorem load184 (hp : pp (ρ x) = true) (h : po (ρ x) + 125 ≤ (rowOf w (pb (ρ x))).size) : (execOp ρ ⟨dst, .load 184 x, ty, pos, af, gd⟩).run Tryz.prog w = .ok (.value (.agg (sub (rowOf w (pb (ρ x))) (po (ρ x)) 125))) w :=
  exec_load_row 184 125 Tryz.underlying184 rfl (by kernel_rfl) w ρ x dst ty pos af gd hp h
theorem load71 (hp : pp (ρ x) = true) (h : po (ρ x) + 41 ≤ (rowOf w (pb (ρ x))).size) : (execOp ρ ⟨dst, .load 71 x, ty, pos, af, gd⟩).run Tryz.prog w = .ok (.value (.agg (sub (rowOf w (pb (ρ x))) (po (ρ x)) 41))) w :=
  exec_load_row 71 41 Tryz.underlying71 rfl (by kernel_rfl) w ρ x dst ty pos af gd hp h
theorem load189 (hp : pp (ρ x) = true) (h : po (ρ x) + 3 ≤ (rowOf w (pb (ρ x))).size) : (execOp ρ ⟨dst, .load 189 x, ty, pos, af, gd⟩).run Tryz.prog w = .ok (.value (.agg (sub (rowOf w (pb (ρ x))) (po (ρ x)) 3))) w :=
  exec_load_row 189 3 Tryz.underlying189 rfl (by kernel_rfl) w ρ x dst ty pos af gd hp h
theorem store184 (hp : pp (ρ x) = true) (h0 : po (ρ x) = 0) (hv : isAg (ρ y) = true) (hs : soft w (pb (ρ x)) = true) (hr : (rowOf w (pb (ρ x))).size = 125) (hn : (agc (ρ y)).size = 125) (h1 : ones (agc (ρ y)) = true) :
    (execOp ρ ⟨dst, .store 184 x y, ty, pos, af, gd⟩).run Tryz.prog w = .ok .skip (w.setRow (pb (ρ x)) (agc (ρ y))) :=
  exec_store_row 184 125 (by kernel_rfl) w ρ x y dst ty pos af gd hp h0 hv hs hr hn h1
theorem store189 (hp : pp (ρ x) = true) (h0 : po (ρ x) = 0) (hv : isAg (ρ y) = true) (hs : soft w (pb (ρ x)) = true) (hr : (rowOf w (pb (ρ x))).size = 3) (hn : (agc (ρ y)).size = 3) (h1 : ones (agc (ρ y)) = true) :
    (execOp ρ ⟨dst, .store 189 x y, ty, pos, af, gd⟩).run Tryz.prog w = .ok .skip (w.setRow (pb (ρ x)) (agc (ρ y))) :=
  exec_store_row 189 3 (by kernel_rfl) w ρ x y dst ty pos af gd hp h0 hv hs hr hn h1
end
theorem z184' (w : World) : (zeroValue 184).run Tryz.prog w = .ok (.agg (vwC ⟨0, 0, 0, 0, 0, 0, 0, 0, 0⟩ Sw.zero ⟨⟨0, 0, 0⟩, 0, 0, 0, 0, 0, false, Hs.zero⟩)) w := by kernel_rfl
theorem ones_rule (f : Nat) (a b : Int) : ones #[.func (Fn.func f) #[] #[], .int .i64 a, .int .i64 b] = true := by simp [ones, Value.oneCell']
attribute [go_sem ↓] ebvw load184 load71 load189 store184 store189 z184' fc_6 vw_5 vw_10 vw_87 vw_88
attribute [go_sem] fc_size fc_one fc_whole fc_n fc_s fc_6g fc_set8 s_set41 vw_size vw_one vw_whole vw_t vw_d vw_n vw_5g vw_10g vw_87g vw_88g swO2_mk fcO2_mk tmO_mk ones_rule
end Go.Proofs.YtohpcfhgbgfblaaGreatDoor

namespace Go.Proofs.YtohpcfhgbgfblaaGreatDoor
open Go.RowKit
set_option maxRecDepth 100000
attribute [local go_sem ↓] rowOf_cell
attribute [local go_sem] rowOf_alloc soft_alloc rowOf_drew soft_drew rowOf_setRow soft_setRow frozen_of_soft
section
variable {t : Tm} {s : Sw} {f : Fc}
theorem safe_view (ht : TmK t) (h : safeE t s.d f.n = 0) (w : World) : Calls Tryz.prog 157 #[.agg (vwC t s f)] w fun e w' => e = .returned (.bool true) ∧ Below w.heap.size w w' := by
  have S : ∀ w, Calls Tryz.prog 16 #[.agg t.cells, .agg s.d.cells, .agg f.n.cells] w fun e w' => e = .returned (.int .i64 0) ∧ Below w.heap.size w w' := fun w => by
    have := Safe_any ht.tm s.d f.n w
    rw [h] at this
    exact this
  have S := Lib.hid S
  clear h ht
  go_enter Tryz.func157, Tryz.ntmps157
  go_upto_region 1 with (fail)
  have bx := Bx.new w (vwC t s f) 184; generalize w.alloc (.cells (vwC t s f) 184) = W at bx ⊢; have rx := bx.rowOf; have sx := bx.soft; have BX := Lib.hid bx; clear bx
  go_wp2_with fail
  refine (S.out W).mono ?_; rintro _ W2 ⟨rfl, hb⟩; have bx := BX.out.step hb; clear BX rx sx hb; have rx := bx.rowOf; have sx := bx.soft; have BX := Lib.hid bx; clear bx
  go_wp2
  go_ret
  exact ⟨rfl, BX.out.below⟩
theorem rule_in (h : (f.pin > 0) = False) (w : World) : Calls Tryz.prog 155 #[.agg (vwC t s f)] w fun e w' => e = .returned (.bool false) ∧ Below w.heap.size w w' := by
  go_enter Tryz.func155, Tryz.ntmps155
  go_upto_region 1 with (fail)
  have bx := Bx.new w (vwC t s f) 184; generalize w.alloc (.cells (vwC t s f) 184) = W at bx ⊢; have rx := bx.rowOf; have sx := bx.soft; have BX := Lib.hid bx; clear bx
  go_wp2
  go_ret
  exact ⟨rfl, BX.out.below⟩
theorem rule_safe (ht : TmK t) (h : safeE t s.d f.n = 0) (w : World) : Calls Tryz.prog 156 #[.agg (vwC t s f)] w fun e w' => e = .returned (.bool false) ∧ Below w.heap.size w w' := by
  have HT := Lib.hid ht
  have H := Lib.hid h
  clear ht h
  go_enter Tryz.func156, Tryz.ntmps156
  go_upto_region 1 with (fail)
  have bx := Bx.new w (vwC t s f) 184; generalize w.alloc (.cells (vwC t s f) 184) = W at bx ⊢; have rx := bx.rowOf; have sx := bx.soft; have BX := Lib.hid bx; clear bx
  go_wp2_with fail
  refine (safe_view HT.out H.out W).mono ?_; rintro _ W2 ⟨rfl, hb⟩; have bx := BX.out.step hb; clear BX rx sx hb; have rx := bx.rowOf; have sx := bx.soft; have BX := Lib.hid bx; clear bx
  go_wp2
  go_ret
  exact ⟨rfl, BX.out.below⟩
theorem buried_any {x : Int} {b : Bool} (hb : decide (x ≥ t.depth) = b) (w : World) : Calls Tryz.prog 159 #[.agg (vwC t s f), .int .i64 x] w fun e w' => e = .returned (.bool b) ∧ Below w.heap.size w w' := by
  go_enter Tryz.func159, Tryz.ntmps159
  go_upto_region 1 with (fail)
  have bx := Bx.new w (vwC t s f) 184; generalize w.alloc (.cells (vwC t s f) 184) = W at bx ⊢; have rx := bx.rowOf; have sx := bx.soft; have BX := Lib.hid bx; clear bx
  go_wp2
  go_ret
  exact ⟨by rw [← hb]; rfl, BX.out.below⟩
theorem rule_lock (hr : s.d.r = 2) {b : Bool} (hb : decide (f.gin ≥ t.depth) = b) (w : World) : Calls Tryz.prog 158 #[.agg (vwC t s f)] w fun e w' => e = .returned (.bool b) ∧ Below w.heap.size w w' := by
  have HB := Lib.hid hb
  clear hb
  go_enter Tryz.func158, Tryz.ntmps158
  go_upto_region 1 with (fail)
  have bx := Bx.new w (vwC t s f) 184; generalize w.alloc (.cells (vwC t s f) 184) = W at bx ⊢; have rx := bx.rowOf; have sx := bx.soft; have BX := Lib.hid bx; clear bx
  go_wp2_with fail
  refine (buried_any (t := t) (s := s) (f := f) HB.out W).mono ?_; rintro _ W2 ⟨rfl, hb⟩; have bx := BX.out.step hb; clear BX rx sx hb; have rx := bx.rowOf; have sx := bx.soft; have BX := Lib.hid bx; clear bx
  go_wp2
  go_ret
  exact ⟨rfl, BX.out.below⟩
theorem always_any (w : World) : Calls Tryz.prog 99 #[.agg (vwC t s f)] w fun e w' => e = .returned (.bool true) ∧ Below w.heap.size w w' := by
  go_enter Tryz.func99, Tryz.ntmps99
  go_upto_region 1 with (fail)
  have bx := Bx.new w (vwC t s f) 184; generalize w.alloc (.cells (vwC t s f) 184) = W at bx ⊢; have rx := bx.rowOf; have sx := bx.soft; have BX := Lib.hid bx; clear bx
  go_wp2
  go_ret
  exact ⟨rfl, BX.out.below⟩
end
end Go.Proofs.YtohpcfhgbgfblaaGreatDoor

namespace Go.Proofs.YtohpcfhgbgfblaaGreatDoor
open Go.RowKit
set_option maxRecDepth 100000
theorem own_rows (w : World) (B e size n k : Nat) (cs : Array Value) (hk : w.heap.size = k) (hB : B ≤ k) (hn : n ≤ maxLen) (hs : cs.size = n * size) : (w.alloc (.cells cs e)).ownsRow B e size (.slice (some ⟨k, 0, none⟩) n n) n cs.toList := by
  subst hk
  exact ⟨by simpa using hs, .inr ⟨w.heap.size, n, cs, rfl, hB, heap_alloc_new w _, Nat.le_refl _, hn, hs, by rw [← hs, ← Array.length_toList, List.take_length]⟩⟩
/-- 'append' to a slice without room, in a region that draws its order. -/
theorem makes_app {P : Program} {t e : TypeId} {size : Nat} (E : Elem P t e size) {w : World} {ρ : Operand → Value} {s x : Operand} {dst : Option Tmp} {ty : TypeId} {pos : String} {af : Array Edge} {gd : Option (Nat × Bool)}
    {B : Nat} {ao : Option Addr} {n m c : Nat} {xs news : List Value} {ad : Addr} (hs : ρ s = .slice ao n n) (hown : w.ownsRow B e size (.slice ao n n) n xs) (hx : ρ x = .slice (some ad) m c) (hl : news.length = m * size)
    (hnews : ∀ (j : Nat) u, news[j]? = some u → w.cell? (ad.add j) = some u) (h1 : ∀ u ∈ news, u.oneCell' = true) (hm : 0 < m) (h63 : n + m ≤ 1099511627776) (hB : B ≤ w.heap.size) :
    Mk.Oper.makesUpon P w (fun x : Option Addr × Nat => .slice x.1 (n + m) x.2) (fun x w' => w'.ownsRow B e size (.slice x.1 (n + m) x.2) (n + m) (xs ++ news)) ((execOp ρ ⟨dst, .call { callee := .builtin .append, args := #[s, x], argTypes := #[t, t] }, ty, pos, af, gd⟩).run P w) := by
  obtain ⟨hu, hpos, i, z, hi, hz, hsz, hby, hzs⟩ := E
  have hbytes : (n + m) * i.bytes ≤ 140737488355328 := by
    calc (n + m) * i.bytes ≤ 1099511627776 * 64 := Nat.mul_le_mul h63 hby
      _ ≤ 140737488355328 := by decide
  have hmx : n + m ≤ maxLen := by simp only [maxLen]; omega
  have key : ∃ v' w', (Builtin.append_ #[t, t] ty #[.slice ao n n, .slice (some ad) m c]).run P w = .ok v' w' ∧ w'.ownsRow B e size v' (n + m) (xs ++ news) ∧ Below w.heap.size w w' := by
    cases ao with
    | none =>
      obtain ⟨g, cap, w', hr, h2, h3, _, _⟩ := run_append_lies (P := P) w t ty B e i z size i.bytes hu hi hz hsz rfl hzs hpos _ n xs hown ad m c news hl hnews h1 hm hmx hbytes hB _ rfl
      exact ⟨_, w', hr, h2, (Below.refl _ w).grown h3 (Nat.le_refl _) (fun k hk => by cases hk)⟩
    | some b =>
      have hb : ∀ (j : Nat) u, xs[j]? = some u → w.cell? (b.add j) = some u := fun j u hj => by
        rcases hown.2 with ⟨hv, _⟩ | ⟨g, cp, cur, hv, _⟩
        · cases hv
        · cases hv
          exact hown.cells (g := g) rfl j u hj
      obtain ⟨v', w', hr, h2, h3⟩ := run_append_arg_grows (P := P) w t ty e i z size i.bytes hu hi hz hsz rfl hzs hpos b n n xs hown.1 hb ad m c news hl hnews (by omega) hmx hbytes
      exact ⟨v', w', hr, own_base h2 hB, (Below.refl _ w).grown h3 (Nat.le_refl _) (fun k hk => by cases hk)⟩
  obtain ⟨v', w', hr, h2, h3⟩ := key
  obtain ⟨ao', cap, rfl⟩ := own_form h2
  have e : (execOp ρ ⟨dst, .call { callee := .builtin .append, args := #[s, x], argTypes := #[t, t] }, ty, pos, af, gd⟩).run P w = .ok (.value (.slice ao' (n + m) cap)) w' := by
    unfold execOp
    simp only [resolve, invoke, builtin, Sem.run_bind, Sem.run_pure, Result.andThen_ok, List.map_toArray, List.map_cons, List.map_nil, hs, hx, hr]
  rw [e]
  exact ⟨(ao', cap), rfl, ⟨⟨w', h3⟩, rfl⟩, h2⟩
theorem elemR : Elem Tryz.prog 185 189 3 := Elem.mk' Tryz.underlying185 (by kernel_rfl) (z := .agg #[.nilFunc, .int .i64 0, .int .i64 0]) (bytes := 24) rfl (by decide) (by decide)
/-- A rule: its function, its move, its state. -/
structure Ru where
  fn : Nat
  mv : Int
  st : Int
def Ru.cells (r : Ru) : List Value := [.func (Fn.func r.fn) #[] #[], .int .i64 r.mv, .int .i64 r.st]
def rcells (L : List Ru) : List Value := L.flatMap Ru.cells
def rules1 : List Ru := [⟨155, 0, 2⟩, ⟨156, 4, 6⟩, ⟨158, 1, 2⟩]
def all1 : List Ru := [⟨155, 0, 2⟩, ⟨156, 4, 6⟩, ⟨158, 1, 2⟩, ⟨99, 0, 1⟩]
theorem rcells_at (L : List Ru) : ∀ (i : Nat) r, L[i]? = some r → (rcells L)[i * 3]? = some (.func (Fn.func r.fn) #[] #[]) ∧ (rcells L)[i * 3 + 1]? = some (.int .i64 r.mv) ∧ (rcells L)[i * 3 + 2]? = some (.int .i64 r.st) := by
  induction L with
  | nil => intro i f h; simp at h
  | cons g L ih =>
    intro i f h
    have e : rcells (g :: L) = .func (Fn.func g.fn) #[] #[] :: .int .i64 g.mv :: .int .i64 g.st :: rcells L := rfl
    rw [e]
    cases i with
    | zero =>
      obtain rfl : g = f := by simpa using h
      exact ⟨rfl, rfl, rfl⟩
    | succ i =>
      have := ih i f (by simpa using h)
      rw [show (i + 1) * 3 = i * 3 + 1 + 1 + 1 by omega]
      simpa using this
theorem rules_1 (w : World) : Calls Tryz.prog 98 #[.int .i64 1] w fun e w' => ∃ ao, e = .returned (.slice ao 3 3) ∧ (∃ g : Ext w, w' = g.val) ∧ w'.ownsRow w.heap.size 189 3 (.slice ao 3 3) 3 (rcells rules1) := by
  go_enter Tryz.func98, Tryz.ntmps98
  go_wp2
  go_ret
  exact ⟨_, rfl, ⟨⟨_, below1 _ _⟩, rfl⟩, own_rows w _ 189 3 3 _ _ rfl (Nat.le_refl _) (by decide) rfl⟩
def saysB1 (b : Bool) (k : Nat) : Bool := if k = 155 then false else if k = 156 then false else if k = 158 then b else true
theorem rules_fn {r : Ru} (hr : r ∈ all1) : r.fn = 155 ∨ r.fn = 156 ∨ r.fn = 158 ∨ r.fn = 99 := by
  unfold all1 at hr
  simp only [List.mem_cons, List.not_mem_nil, or_false] at hr
  rcases hr with rfl | rfl | rfl | rfl <;> simp
theorem says_enter {r : Ru} (hr : r ∈ all1) (v : Array Value) (w : World) : (callFunc r.fn v).run Tryz.prog w = .ok (.enter r.fn v) w := by
  rcases rules_fn hr with h | h | h | h <;> rw [h] <;> kernel_rfl
theorem says_any {t : Tm} {s : Sw} {f : Fc} (ht : TmK t) (hs : safeE t s.d f.n = 0) (h4 : (f.pin > 0) = False) (h5 : s.d.r = 2) {b : Bool} (h6 : decide (f.gin ≥ t.depth) = b) {r : Ru} (hr : r ∈ all1) (w : World) : Calls Tryz.prog r.fn #[.agg (vwC t s f)] w (Ret (.bool (saysB1 b r.fn)) w) := by
  rcases rules_fn hr with h | h | h | h <;> rw [h]
  · exact ret_of (rule_in h4 w)
  · exact ret_of (rule_safe ht hs w)
  · exact ret_of (rule_lock h5 h6 w)
  · exact ret_of (always_any w)
theorem hit {b : Bool} {k : Nat} {r : Ru} (hr : all1[k]? = some r) (h : saysB1 b r.fn = true) (hn : ∀ j q, j < k → all1[j]? = some q → saysB1 b q.fn = false) : r.mv = (if b then 1 else 0) ∧ r.st = (if b then 2 else 1) := by
  match k, hr with
  | 0, hr => cases hr; cases h
  | 1, hr => cases hr; cases h
  | 2, hr => cases hr; cases b <;> first | cases h; done | exact ⟨rfl, rfl⟩
  | 3, hr =>
    cases hr
    have := hn 2 _ (by decide) rfl
    cases b
    · exact ⟨rfl, rfl⟩
    · cases this
  | k + 4, hr => simp [all1] at hr
theorem results_tmp_row {P : Program} {fn : Func} {p u : Tmp} {d : TypeDesc} {t : TypeId} {n : Nat} (hr : fn.results = #[.tmp u, .cell p t]) (hu : P.underlying t = some d) (hd : d.isRow = true) (hi : (P.info? t).map (·.size) = some n)
    (tmps : Array Value) (w : World) (b : Nat) (hp : tmps.getD p undef = .pointer (some ⟨b, 0, none⟩)) {cs : Array Value} (hc : rowOf w b = cs) (hn : cs.size = n) :
    (results fn tmps).run P w = .ok (.tuple #[tmps.getD u undef, .agg cs]) w := by
  have h1 := var_row t n hu hd hi w b 0 (by rw [hc]; omega)
  have hp' : tmps[p]?.getD undef = .pointer (some ⟨b, 0, none⟩) := by simpa using hp
  have e : sub (rowOf w b) 0 n = cs := by rw [hc, ← hn]; simp [sub]
  rw [e] at h1
  simp [results, hr, hp', asAddr, h1]
/-- The letters of the region that makes the rules. -/
def K4 (i : Nat) : Bool := i == 2 || i == 6 || i == 7
def mk4 (i : Nat) (x : Option Addr × Nat) : Value := match i with
  | 2 => .slice x.1 3 3
  | 6 => .slice x.1 1 1
  | _ => .slice x.1 4 x.2
def ob4 (B : Nat) (i : Nat) (x : Option Addr × Nat) (w : World) : Prop := match i with
  | 2 => w.ownsRow B 189 3 (.slice x.1 3 3) 3 (rcells rules1)
  | 6 => w.ownsRow B 189 3 (.slice x.1 1 1) 1 (Ru.cells ⟨99, 0, 1⟩)
  | _ => w.ownsRow B 189 3 (.slice x.1 4 x.2) 4 (rcells all1)
theorem mk4_2 (x : Option Addr × Nat) : mk4 2 x = .slice x.1 3 3 := rfl
theorem mk4_6 (x : Option Addr × Nat) : mk4 6 x = .slice x.1 1 1 := rfl
theorem mk4_7 (x : Option Addr × Nat) : mk4 7 x = .slice x.1 4 x.2 := rfl
theorem hp4 (B : Nat) : ∀ i x (w1 : World) (g : Ext w1), ob4 B i x w1 → ob4 B i x g.val := fun i x w1 g h => by
  unfold ob4 at *
  split at h <;> exact own_ext h g
/-- What the loop over the rules holds. -/
structure NV1 (t : Tm) (s : Sw) (f : Fc) (w : World) (vb : Nat) (wr : World) : Prop where
  bx : Bxs w [(t.cells, 31), (s.cells, 52), (f.cells, 71), (Sw.zero.cells, 52)] wr
  vr : wr.heap[vb]? = some (.cells (vwC t s f) 184)
  vl : w.heap.size + 3 < vb
theorem NV1.step {t : Tm} {s : Sw} {f : Fc} {w wr wr' : World} {vb : Nat} (h : NV1 t s f w vb wr) (hb : Below wr.heap.size wr wr') : NV1 t s f w vb wr' :=
  ⟨h.bx.step hb, (hb.block _ (Array.getElem?_eq_some_iff.1 h.vr).1).trans h.vr, h.vl⟩
def RN1 (t : Tm) (s : Sw) (f : Fc) (w : World) (b : Bool) (vb B : Nat) (v : Value) (i : Value) (wr : World) : Prop := ∃ k : Nat, k ≤ 4 ∧ i = .int .i64 (k : Int) ∧ NV1 t s f w vb wr ∧ wr.ownsRow B 189 3 v 4 (rcells all1) ∧
  ∀ j q, j < k → all1[j]? = some q → saysB1 b q.fn = false
attribute [local go_sem ↓] rowOf_cell
attribute [local go_sem] rowOf_alloc soft_alloc rowOf_drew soft_drew rowOf_setRow soft_setRow rowOf_setCell soft_setCell frozen_of_soft Ext.row Ext.soft_
set_option maxHeartbeats 4000000 in
theorem next_agreed {t : Tm} {s : Sw} {f : Fc} (ht : TmK t) (hs : safeE t s.d f.n = 0) (h1 : s.st = 1) (h2 : s.kn = false) (h3 : f.sn = false) (h4 : (f.pin > 0) = False) (h5 : s.d.r = 2) {b : Bool} (h6 : decide (f.gin ≥ t.depth) = b) (w : World) :
    Calls Tryz.prog 50 #[.agg t.cells, .agg s.cells, .agg f.cells] w fun e w' => e = .returned (.tuple #[.int .i64 (if b then 1 else 0), .agg (Sw.cells { s with st := if b then 2 else 1 })]) ∧ Below w.heap.size w w' := by
  obtain ⟨dd, st, kn, sv⟩ := s
  simp only at h1 h2
  subst h1 h2
  have SAY : ∀ r ∈ all1, ∀ w, Calls Tryz.prog r.fn #[.agg (vwC t ⟨dd, 1, false, sv⟩ f)] w (Ret (.bool (saysB1 b r.fn)) w) := fun r hr w => says_any ht hs h4 h5 h6 hr w
  have SAY := Lib.hid SAY
  clear ht hs h4 h5 h6
  generalize hmv : (if b = true then (1 : Int) else 0) = mv
  generalize hst : (if b = true then (2 : Int) else 1) = st
  have HMV := Lib.hid hmv
  have HSS := Lib.hid hst
  clear hmv hst
  go_enter Tryz.func50, Tryz.ntmps50
  go_upto_region 1 with (fail)
  have bx := Bxs.new4 w t.cells 31 (Sw.cells ⟨dd, 1, false, sv⟩) 52 f.cells 71 Sw.zero.cells 52
  have hz : ((((w.alloc (.cells t.cells 31)).alloc (.cells (Sw.cells ⟨dd, 1, false, sv⟩) 52)).alloc (.cells f.cells 71)).alloc (.cells Sw.zero.cells 52)).heap.size = w.heap.size + 4 := by simp
  generalize ((((w.alloc (.cells t.cells 31)).alloc (.cells (Sw.cells ⟨dd, 1, false, sv⟩) 52)).alloc (.cells f.cells 71)).alloc (.cells Sw.zero.cells 52)) = W at bx hz ⊢
  have rx0 : rowOf W w.heap.size = t.cells := bx.row' 0 rfl
  have rx1 : rowOf W (w.heap.size + 1) = Sw.cells ⟨dd, 1, false, sv⟩ := bx.row' 1 rfl
  have rx2 : rowOf W (w.heap.size + 2) = f.cells := bx.row' 2 rfl
  have BX := Lib.hid bx
  have HZ := Lib.hid hz
  clear bx hz
  go_upto_region 4 with (fail)
  have L := Bx.made W (vwC ⟨0, 0, 0, 0, 0, 0, 0, 0, 0⟩ Sw.zero ⟨⟨0, 0, 0⟩, 0, 0, 0, 0, 0, false, Hs.zero⟩) (vwC t ⟨dd, 1, false, sv⟩ f) 184
  generalize (W.alloc (.cells (vwC ⟨0, 0, 0, 0, 0, 0, 0, 0, 0⟩ Sw.zero ⟨⟨0, 0, 0⟩, 0, 0, 0, 0, 0, false, Hs.zero⟩) 184)).setRow W.heap.size (vwC t ⟨dd, 1, false, sv⟩ f) = W' at L ⊢
  have n4 : NV1 t ⟨dd, 1, false, sv⟩ f w W.heap.size W' := ⟨BX.out.step L.below, L.row, by have := HZ.out; omega⟩
  clear L rx0 rx1 rx2 BX
  generalize hvb : W.heap.size = vb at n4 ⊢
  clear hvb HZ
  have q1 : rowOf W' (w.heap.size + 1) = Sw.cells ⟨dd, 1, false, sv⟩ := n4.bx.row' 1 rfl
  have q2 : w.heap.size + 1 < W'.heap.size := n4.bx.lt 1 rfl
  refine Ls.wp_region_lays (β := Option Addr × Nat) (K := K4) (mk := mk4) (ob := ob4 W'.heap.size) (hp4 _) 10 (by kernel_rfl) (by kernel_rfl) ?_
  simp only [List.take_succ_cons, List.drop_succ_cons, List.take_nil, List.drop_nil]
  (refine Ls.grow_step rfl (fun k hk => ?_); go_simp; (refine hk _ ?_; clear hk k))
  (refine Ls.grow_step rfl (fun k hk => ?_); go_simp; (refine hk _ ?_; clear hk k))
  (refine Ls.grow_lay rfl (fun _ => rfl) (fun E g hk => ?_) ?_)
  · go_simp
    refine ⟨rfl, (rules_1 _).mono ?_⟩
    rintro e w2 ⟨ao, rfl, hg, hown⟩
    exact ⟨(ao, 0), rfl, hg, own_base hown g.size⟩
  simp only [Act.put, List.setIfInBounds_toArray, List.set_cons_succ, List.set_cons_zero, Nat.zero_add, Nat.reduceAdd, mk4_2]
  (refine Ls.grow_step rfl (fun k hk => ?_); go_simp; (refine hk _ ?_; clear hk k))
  (refine Ls.grow_step rfl (fun k hk => ?_); go_simp; (refine hk _ ?_; clear hk k))
  (refine Ls.grow_step rfl (fun k hk => ?_); go_simp; (refine hk _ ?_; clear hk k))
  (refine Ls.grow_lay rfl (fun _ => rfl) (fun E g hk => ?_) ?_)
  · go_simp
    exact ⟨(some ⟨_, 0, none⟩, 0), rfl, ⟨⟨_, below1 _ _⟩, rfl⟩, own_rows g.val _ 189 3 1 _ #[_, _, _] rfl g.size (by decide) rfl⟩
  simp only [Act.put, List.setIfInBounds_toArray, List.set_cons_succ, List.set_cons_zero, Nat.reduceAdd, mk4_6]
  (refine Ls.grow_lay rfl (fun _ => rfl) (fun E g hk => ?_) ?_)
  · have h2 : g.val.ownsRow W'.heap.size 189 3 (.slice (E 2).1 3 3) 3 (rcells rules1) := hk ⟨2, .data⟩ (by simp) rfl rfl
    have h6 : g.val.ownsRow W'.heap.size 189 3 (.slice (E 6).1 1 1) 1 (Ru.cells ⟨99, 0, 1⟩) := hk ⟨6, .data⟩ (by simp) rfl rfl
    obtain ⟨g6, cap, hv, _, _⟩ := h6.form (by decide)
    obtain ⟨e6, _, _⟩ := Value.slice.inj hv
    refine makes_app elemR (s := .tmp 28) (x := .tmp 32) (B := W'.heap.size) (ao := (E 2).1) (m := 1) (c := 1) (ad := ⟨g6, 0, none⟩) (news := Ru.cells ⟨99, 0, 1⟩) rfl h2 ?_ rfl ?_ ?_ (by decide) (by decide) g.size
    · show Value.slice (E 6).1 1 1 = _
      rw [e6]
    · intro j u hj
      rw [e6] at h6
      exact h6.cells (g := g6) rfl j u hj
    · intro u hu
      simp only [Ru.cells, List.mem_cons, List.not_mem_nil, or_false] at hu
      rcases hu with rfl | rfl | rfl <;> rfl
  simp only [Act.put, List.setIfInBounds_toArray, List.set_cons_succ, List.set_cons_zero, Nat.reduceAdd, mk4_7]
  (refine Ls.grow_step rfl (fun k hk => ?_); go_simp; (refine hk _ ?_; clear hk k))
  (refine Ls.grow_step rfl (fun k hk => ?_); go_simp; (refine hk _ ?_; clear hk k))
  refine (fun E w' hob ⟨g, hg⟩ => ?_)
  subst hg
  have own8 : g.val.ownsRow W'.heap.size 189 3 (.slice (E 7).1 4 (E 7).2) 4 (rcells all1) := hob 7 (by decide) rfl
  clear hob
  have n5 := n4.step g.below
  dsimp only
  have hB : w.heap.size + 3 < W'.heap.size := n4.bx.lt 3 rfl
  generalize (E 7).1 = A7 at *
  generalize (E 7).2 = C7 at *
  generalize (E 2).1 = A2 at *
  generalize (E 6).1 = A6 at *
  generalize g.val = W5 at *
  clear E g n4 q1 q2
  go_wp2_with fail
  go_loopw [35] (fun i wr => RN1 t ⟨dd, 1, false, sv⟩ f w b vb W'.heap.size (.slice A7 4 C7) i wr) (fun i _ => 4 - (intOf i).toNat)
  case atStart => exact ⟨0, by omega, rfl, n5, own8, fun j q hj => absurd hj (by omega)⟩
  case round =>
    clear n5 own8
    obtain ⟨k, hk, rfl, n6, hown, hno⟩ := hrel
    by_cases hlt : k < 4
    · have hlt' : (k : Int) < 4 := by omega
      obtain ⟨r, hr⟩ : ∃ r, all1[k]? = some r := ⟨_, List.getElem?_eq_getElem hlt⟩
      obtain ⟨gb, cc, hv, hB7, hgl⟩ := hown.form (by omega)
      cases hv
      obtain ⟨d0, d1, d2⟩ := rcells_at all1 k r hr
      have c0 := hown.cells (g := gb) rfl _ _ d0
      have c1 := hown.cells (g := gb) rfl _ _ d1
      have c2 := hown.cells (g := gb) rfl _ _ d2
      rw [add_plain_addr, Nat.zero_add] at c0 c1 c2
      rw [rowOf_cell] at c0 c1 c2
      have hc := fun w => SAY.out r (List.mem_of_getElem? hr) w
      have hent := says_enter (List.mem_of_getElem? hr)
      have HR := Lib.hid hr
      have HN := Lib.hid hno
      have q4 := rowOf_of n6.vr
      have N6 := Lib.hid n6
      have ne4 : ¬ vb = wr.heap.size := Nat.ne_of_lt (Array.getElem?_eq_some_iff.1 n6.vr).1
      have HO := Lib.hid hown
      clear d0 d1 d2 hr hno n6 hown hgl
      have L := fun cs : Array Value => Bx.made wr #[.nilFunc, .int .i64 0, .int .i64 0] cs 189
      cases hb : saysB1 b r.fn
      · rw [hb] at hc
        have HBb := Lib.hid hb
        clear hb
        go_wp2_with fail
        refine (hc _).mono ?_
        rintro _ _ ⟨rfl, g1, rfl⟩
        have bb : Below wr.heap.size wr g1.val := (L #[.func (Fn.func r.fn) #[] #[], .int .i64 r.mv, .int .i64 r.st]).below.trans (g1.below.mono (L _).below.size)
        have n8 := N6.out.step bb
        have o8 := own_keep HO.out (Nat.le_refl _) bb
        go_wp2_with fail
        go_roundw
        case rel =>
          refine ⟨k + 1, by omega, rfl, n8, o8, fun j q hj hq => ?_⟩
          by_cases e : j = k
          · subst e
            rw [HR.out] at hq
            cases hq
            exact HBb.out
          · exact HN.out j q (by omega) hq
        case measure => simp [intOf]; omega
      · rw [hb] at hc
        have HBb := Lib.hid hb
        clear hb
        go_wp2_with fail
        refine (hc _).mono ?_
        rintro _ _ ⟨rfl, g1, rfl⟩
        obtain ⟨hm, hs⟩ := hit HR.out HBb.out HN.out
        have LB := (L #[.func (Fn.func r.fn) #[] #[], .int .i64 r.mv, .int .i64 r.st]).step g1.below
        have n7 := N6.out.step LB.below
        have W1 := n7.bx.row' 1 rfl
        have S1 := n7.bx.soft' 1 rfl
        have W2 := LB.rowOf
        have l1 := n7.bx.lt 3 rfl
        have HM := Lib.hid (hm.trans HMV.out)
        have HST := Lib.hid (hs.trans HSS.out)
        have ne5 : ¬ w.heap.size + 1 = wr.heap.size := by have := N6.out.bx.lt 3 rfl; omega
        have B7 := Lib.hid n7
        have LBB := Lib.hid LB
        clear hc hent c0 c1 c2 q4 ne4 HN HR HBb hm hs n7 L LB N6 HO
        generalize g1.val = X at *
        clear g1
        go_wp2_with fail
        have y := B7.out.bx.set (j := 1) rfl 41 (.int .i64 r.st)
        rw [s_set41] at y
        have W3 := y.row' 1 rfl
        have W4 := y.soft' 3 rfl
        have W5 := y.row' 3 rfl
        have W6 : rowOf (X.setCell ⟨w.heap.size + 1, 41, none⟩ (.int .i64 r.st)) wr.heap.size = #[.func (Fn.func r.fn) #[] #[], .int .i64 r.mv, .int .i64 r.st] := by rw [rowOf_setCell, if_neg (fun e => ne5 e.symm)]; exact LBB.out.rowOf
        have bz := y.below
        clear W1 S1 W2 y l1 ne5
        generalize X.setCell ⟨w.heap.size + 1, 41, none⟩ (.int .i64 r.st) = Y at *
        clear LBB B7
        go_region
        go_wp2_with fail
        refine bodyPost_ret (results_tmp_row rfl Tryz.underlying52 rfl (by kernel_rfl) _ _ (w.heap.size + 1 + 1 + 1) rfl (cs := Sw.cells ⟨dd, r.st, false, sv⟩) (by first | (rw [rowOf_setRow _ _ _ _ (by first | exact W4 | (rw [soft_drew]; exact W4)), if_pos rfl])) (s_size _)) rfl ?_
        refine ⟨?_, Below.setRow_ (by first | exact bz.drew | exact bz) (Nat.le_add_right w.heap.size 3) _⟩
        show Ending.returned (.tuple #[.int .i64 r.mv, .agg (Sw.cells ⟨dd, r.st, false, sv⟩)]) = _
        rw [HM.out, HST.out]
    · have h3 := hno 3 _ (by omega) (show all1[3]? = some ⟨99, 0, 1⟩ from rfl)
      cases h3
end Go.Proofs.YtohpcfhgbgfblaaGreatDoor
