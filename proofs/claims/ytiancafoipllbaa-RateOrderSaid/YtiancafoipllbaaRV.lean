/- What is proved: RateOrder answers true at any floats: medians hang on no order, nor on what is not right. No condition but those each law names. -/
import Derived.Test.YtiancafoipllbaaRU
import Derived.Test.YtiancafoipllbaaRE
import Derived.Deep.RegionHeld3
namespace Go.Proofs.Ytiancafoipllbaa
open Go.RowKit Fl Ieee
attribute [-go_sem] binOp_float_cmp_eql binOp_float_cmp_neq binOp_float_cmp_lss binOp_float_cmp_leq binOp_float_cmp_gtr binOp_float_cmp_geq
attribute [local go_sem] Fl.cmp_eql Fl.cmp_neq Fl.cmp_lss Fl.cmp_leq Fl.cmp_gtr Fl.cmp_geq
set_option maxRecDepth 100000

section
variable (w : World) (a : Option Addr) (len cap : Nat)
theorem fslice_h (kh : IntKind) (h : Int) (h0 : 0 ≤ h) (h2 : h ≤ cap) :
    (Instr.slice 22 (.slice a len cap) none (some (.int kh h)) none).run Try.prog w = .ok (.slice a h.toNat cap) w := by
  rw [run_slice_h w 22 a len cap Try.underlying22 kh h h0 h2]
  show Result.ok (Value.slice (cutA a 0 cap) _ _) w = _
  rw [cutA_zero]
  rfl
theorem fslice_l (kl : IntKind) (l : Int) (h0 : 0 ≤ l) (h1 : l ≤ len) :
    (Instr.slice 22 (.slice a len cap) (some (.int kl l)) none none).run Try.prog w = .ok (.slice (cutA a l.toNat cap) (len - l.toNat) (cap - l.toNat)) w := by
  rw [run_slice_l w 22 a len cap Try.underlying22 kl l h0 h1]
  rfl
end
attribute [local go_sem high] fslice_h fslice_l
section
variable {P : Program} {t e : TypeId} {size : Nat}
/-- 'append' as a step of a region that draws its order. -/
theorem step_app (E : Elem P t e size) {ops : Array Oper} {o : Oper} {a : Act} {w : World} {K : Act → World → Prop} {Q : Exit → Act → World → Prop} {X : Prop} (hgd : o.guard = none) (s x : Operand)
    (ho : o.op = .call { callee := .builtin .append, args := #[s, x], argTypes := #[t, t] })
    {B : Nat} {v : Value} {n : Nat} {xs : List Value} (hs : a.eval s = v) (hown : w.ownsRow B e size v n xs)
    {ao : Option Addr} {m c : Nat} {news : List Value} (hx : a.eval x = .slice ao m c) (hl : news.length = m * size) (hnil : ao = none → m = 0 ∧ c = 0)
    (hnews : news = [] ∨ ∃ b q, ao = some ⟨b, q, none⟩ ∧ ∀ (j : Nat) u, news[j]? = some u → w.cell? ⟨b, q + j, none⟩ = some u) (h1 : ∀ u ∈ news, u.oneCell' = true)
    (h63 : n + m ≤ 1099511627776) (hB : B ≤ w.heap.size)
    (h : ∀ ao' cap w', w'.ownsRow B e size (.slice ao' (n + m) cap) (n + m) (xs ++ news) → Below B w w' → K (a.put o.dst (.slice ao' (n + m) cap)) w') : if Region.wanted o (yielded ops a.tmps) = true then Oper.wp P o a w K Q else X := by
  have hw : Region.wanted o (yielded ops a.tmps) = true := by simp [Region.wanted, hgd]
  rw [if_pos hw]
  obtain ⟨hu, hpos, i, z, hi, hz, hsz, hby, hzs⟩ := E
  cases ao with
  | none =>
    obtain ⟨rfl, rfl⟩ := hnil rfl
    have hn : news = [] := List.eq_nil_of_length_eq_zero (by simpa using hl)
    subst hn
    obtain ⟨ao', cap, rfl⟩ := own_form hown
    have hrun := run_append_owned_none (P := P) (w := w) B t o.type e i size hu hi _ n xs hown
    unfold Oper.wp
    simp [execOp, ho, resolve, invoke, builtin, hs, hx, hrun, Result.andThen]
    exact h ao' cap w (by simpa using hown) (Below.refl _ _)
  | some ad =>
    refine wp_append_own w s x t ho B e i z size i.bytes hu hi hz hsz rfl hzs hpos v n xs hs hown ad m c news hx hl ?_ h1 (by simp only [maxLen]; omega) ?_ hB ?_
    · rcases hnews with rfl | ⟨b, q, e1, hc⟩
      · intro j u hj; simp at hj
      · cases e1
        intro j u hj
        rw [add_plain_addr]
        exact hc j u hj
    · calc (n + m) * i.bytes ≤ 1099511627776 * 64 := Nat.mul_le_mul h63 hby
        _ ≤ 140737488355328 := by decide
    · intro v' w' h2 h3 _
      obtain ⟨ao', cap, rfl⟩ := own_form h2
      exact h ao' cap w' h2 ((Below.refl B w).grown h3 hB (own_block hown))
end

theorem cnt_up {ys : List Nat} (hs : ys.Pairwise (· ≤ ·)) {m : Nat} (hm : m < ys.length) : ys.length - m ≤ ys.countP (fun y => decide (ys[m] ≤ y)) := by
  have e : (ys.drop m).countP (fun y => decide (ys[m] ≤ y)) = ys.length - m := by
    rw [List.countP_eq_length.2, List.length_drop]
    intro y hy
    obtain ⟨i, hi, rfl⟩ := List.getElem_of_mem hy
    rw [List.length_drop] at hi
    rw [List.getElem_drop]
    simp only [decide_eq_true_eq]
    rcases Nat.eq_zero_or_pos i with rfl | h0
    · exact Nat.le_refl _
    · exact List.pairwise_iff_getElem.1 hs m (m + i) hm (by omega) (by omega)
  calc ys.length - m = (ys.drop m).countP (fun y => decide (ys[m] ≤ y)) := e.symm
    _ ≤ ys.countP (fun y => decide (ys[m] ≤ y)) := List.Sublist.countP_le (List.drop_sublist _ _)
def lowN (a : Nat) (D : List Nat) : Nat := (oks D).countP (fun z => decide (vz z ≤ a))
def highN (a : Nat) (D : List Nat) : Nat := (oks D).countP (fun z => decide (a ≤ vz z))
def thereN (a : Nat) (D : List Nat) : Bool := (oks D).any (fun z => decide (vz z = a))
theorem oks_cons (z : Nat) (D : List Nat) : oks (z :: D) = if okB z then z :: oks D else oks D := by
  unfold oks
  rw [List.filter_cons]
theorem lowN_no {a z : Nat} {D : List Nat} (h : okB z = false) : lowN a (z :: D) = lowN a D := by unfold lowN; rw [oks_cons, h]; rfl
theorem highN_no {a z : Nat} {D : List Nat} (h : okB z = false) : highN a (z :: D) = highN a D := by unfold highN; rw [oks_cons, h]; rfl
theorem thereN_no {a z : Nat} {D : List Nat} (h : okB z = false) : thereN a (z :: D) = thereN a D := by unfold thereN; rw [oks_cons, h]; rfl
theorem lowN_yes {a z : Nat} {D : List Nat} (h : okB z = true) : lowN a (z :: D) = lowN a D + (if vz z ≤ a then 1 else 0) := by unfold lowN; rw [oks_cons, h, if_pos rfl, List.countP_cons]; simp
theorem highN_yes {a z : Nat} {D : List Nat} (h : okB z = true) : highN a (z :: D) = highN a D + (if a ≤ vz z then 1 else 0) := by unfold highN; rw [oks_cons, h, if_pos rfl, List.countP_cons]; simp
theorem thereN_yes {a z : Nat} {D : List Nat} (h : okB z = true) : thereN a (z :: D) = (decide (vz z = a) || thereN a D) := by unfold thereN; rw [oks_cons, h, if_pos rfl, List.any_cons]
theorem lowN_le (a : Nat) (D : List Nat) : lowN a D ≤ D.length := Nat.le_trans List.countP_le_length (oks_length D)
theorem highN_le (a : Nat) (D : List Nat) : highN a D ≤ D.length := Nat.le_trans List.countP_le_length (oks_length D)
theorem none_at (a : Nat) {zs : List Nat} (h : oks zs = []) : lowN a zs = 0 ∧ highN a zs = 0 ∧ thereN a zs = false := by
  unfold lowN highN thereN
  rw [h]
  exact ⟨rfl, rfl, rfl⟩
theorem some_at {zs ys : List Nat} (hz : ∀ z ∈ zs, z < 2 * NEG) (hp : ys.Perm (rights zs)) (hs : ys.Pairwise (· ≤ ·)) (h0 : oks zs ≠ []) :
    medE ys = 0 ∧ medW ys ≤ W6 ∧ 0 < lowN (medW ys) zs ∧ 0 < highN (medW ys) zs ∧ lowN (medW ys) zs ≤ 2 * highN (medW ys) zs ∧ thereN (medW ys) zs = true := by
  have hro : rights zs = (oks zs).map vz := rights_oks hz
  have hl := hp.length_eq
  have hne : (rights zs).length ≠ 0 := by rw [hro, List.length_map]; exact fun e => h0 (List.eq_nil_of_length_eq_zero e)
  have hm : (ys.length - 1) / 2 < ys.length := by omega
  have e : medW ys = ys[(ys.length - 1) / 2] := by
    unfold medW
    rw [if_neg (by omega), List.getElem?_eq_getElem hm]
    rfl
  have hmem : medW ys ∈ rights zs := by rw [e]; exact hp.mem_iff.1 (List.getElem_mem hm)
  have l1 : lowN (medW ys) zs = cnt ys (medW ys) := by
    unfold lowN cnt
    rw [hp.countP_eq, hro, List.countP_map]
    rfl
  have l2 : highN (medW ys) zs = ys.countP (fun y => decide (medW ys ≤ y)) := by
    unfold highN
    rw [hp.countP_eq, hro, List.countP_map]
    rfl
  have c1 := cnt_hi hs hm
  have c2 := cnt_up hs hm
  rw [← e] at c1 c2
  have c3 : cnt ys (medW ys) ≤ ys.length := List.countP_le_length
  refine ⟨by unfold medE; rw [if_neg (by omega)], rights_le hz _ hmem, by omega, by omega, by omega, ?_⟩
  rw [hro] at hmem
  obtain ⟨z, hz1, hz2⟩ := List.mem_map.1 hmem
  exact List.any_eq_true.2 ⟨z, hz1, decide_eq_true hz2⟩
theorem rights_rev (zs : List Nat) : (rights zs.reverse).Perm (rights zs) := by
  unfold rights
  exact ((List.reverse_perm zs).filter okB).map plainW
theorem rights_more {o : Nat} (ho : okB o = false) (zs : List Nat) (p : Nat) : rights (zs.take p ++ [o] ++ zs.drop p) = rights zs := by
  unfold rights
  have : (zs.take p ++ [o] ++ zs.drop p).filter okB = zs.filter okB := by
    rw [List.filter_append, List.filter_append]
    have : [o].filter okB = [] := by simp [ho]
    rw [this, List.append_nil, ← List.filter_append, List.take_append_drop]
  rw [this]
theorem check_T {z : Nat} (h : okB z = true) (w : World) : Calls Try.prog 16 #[.float .f64 z] w (Ret (.int .i64 0) w) := (check_any z w).mono (by unfold chk; rw [h]; rintro _ _ ⟨rfl, rfl⟩; exact Ret.mk (Below.refl _ _))
theorem check_F {z : Nat} (h : okB z = false) (w : World) : Calls Try.prog 16 #[.float .f64 z] w (Ret (.int .i64 15) w) := (check_any z w).mono (by unfold chk; rw [h]; rintro _ _ ⟨rfl, rfl⟩; exact Ret.mk (Below.refl _ _))
theorem minus_ret {a : Nat} (h : a < INF) (w : World) : Calls Try.prog 18 #[.float .f64 a] w (Ret (.bool false) w) := (minus_any a h w).mono (by rintro _ _ ⟨rfl, rfl⟩; exact Ret.mk (Below.refl _ _))
theorem pick_ret (v n : Int) (hn : 1 ≤ n) (hn2 : n ≤ 4611686018427387904) (w : World) : Calls Try.prog 14 #[.int .i64 v, .int .i64 n] w (Ret (.int .i64 (v % n)) w) := (pick_any v n hn hn2 w).mono (by rintro _ _ ⟨rfl, rfl⟩; exact Ret.mk (Below.refl _ _))
theorem sl_front {w : World} {ao : Option Addr} {n c : Nat} {zs : List Nat} (h : Sl w ao n c (fls zs)) {p : Nat} (hp : p ≤ n) : Sl w ao p c (fls (zs.take p)) := by
  have hle := h.le
  have := h.cut (l := 0) (r := p) (m := c) (n' := p) (cap' := c) (Nat.zero_le _) hp (Nat.le_refl _) (by omega) rfl rfl
  rw [cutA_zero] at this
  unfold fls at *
  rw [List.map_take]
  exact this
theorem sl_back {w : World} {ao : Option Addr} {n c : Nat} {zs : List Nat} (h : Sl w ao n c (fls zs)) {p : Nat} (hp : p ≤ n) : Sl w (cutA ao p c) (n - p) (c - p) (fls (zs.drop p)) := by
  have hle := h.le
  have hl := h.len
  have := h.cut (l := p) (r := n) (m := c) (n' := n - p) (cap' := c - p) hp (Nat.le_refl _) (Nat.le_refl _) hle rfl rfl
  unfold fls at *
  rw [List.map_drop]
  rwa [List.take_of_length_le (by rw [List.length_drop]; omega)] at this
set_option maxHeartbeats 8000000 in
theorem Order_any {w : World} {ao : Option Addr} {n c : Nat} {zs : List Nat} (hl : Sl w ao n c (fls zs)) (hmx : n ≤ 9223372036854775807) (hz : ∀ z ∈ zs, z < 2 * NEG) (other : Nat) (pos : Int) :
    Calls Try.prog 6 #[.slice ao n c, .float .f64 other, .int .i64 pos] w (Ret (.bool true) w) := by
  have hln : zs.length = n := by rw [← hl.len, fls_length]
  by_cases hbig : 200 < n
  · have hb2 : (200 : Int) < n := by omega
    go_enter Try.func6, Try.ntmps6
    go_wp2_with (go_at_call 10; refine (known_ret _).mono ?_; rintro _ _ ⟨rfl, g, rfl⟩)
    go_ret
    exact Ret.mk_of g.below rfl
  · have hb2 : ¬ (200 : Int) < n := by omega
    obtain ⟨ys, hS, hp, hs⟩ := sorts_rights hz (by omega)
    have hSb : SortsAt (rights zs.reverse) ys := by
      obtain ⟨ys2, h1, h2, h3⟩ := sorts_rights (zs := zs.reverse) (fun z h => hz z (List.mem_reverse.1 h)) (by rw [List.length_reverse]; omega)
      rwa [sorted_same (h2.trans ((rights_rev zs).trans hp.symm)) h3 hs] at h1
    have hE : (medE ys = 12 ∧ medW ys ≤ W6 ∧ lowN (medW ys) zs = 0 ∧ highN (medW ys) zs = 0 ∧ thereN (medW ys) zs = false) ∨
        (medE ys = 0 ∧ medW ys ≤ W6 ∧ 0 < lowN (medW ys) zs ∧ 0 < highN (medW ys) zs ∧ lowN (medW ys) zs ≤ 2 * highN (medW ys) zs ∧ thereN (medW ys) zs = true) := by
      by_cases h0 : oks zs = []
      · obtain ⟨a1, a2, a3⟩ := none_at (medW ys) h0
        have hl0 : ys.length = 0 := by rw [hp.length_eq, rights_oks hz, h0]; rfl
        exact .inl ⟨by unfold medE; rw [if_pos hl0], by unfold medW; rw [if_pos hl0]; exact Nat.zero_le _, a1, a2, a3⟩
      · exact .inr (some_at hz hp hs h0)
    have hM := Lib.hid (fun (w1 : World) (hw : Below w.heap.size w w1) => median_sl (hl.keep (Nat.le_refl _) hw) (by omega) hS)
    have hMb := Lib.hid (fun (w1 : World) (a1 : Option Addr) (c1 : Nat) (h : Sl w1 a1 n c1 (fls zs.reverse)) => median_sl h (by omega) hSb)
    have hMm := Lib.hid (fun (p : Nat) (ho : okB other = false) (w1 : World) (a1 : Option Addr) (c1 : Nat) (h : Sl w1 a1 (p + 1 + (n - p)) c1 (fls (zs.take p ++ [other] ++ zs.drop p))) (hpn : p ≤ n) => median_sl h (by omega) (ys := ys) (by rw [rights_more ho]; exact hS))
    clear hS hp hs hSb
    generalize medW ys = A at *
    generalize medE ys = E at *
    have hA : A ≤ W6 := by rcases hE with h | h <;> exact h.2.1
    have HE := Lib.hid hE
    clear hE
    have HZ := Lib.hid hz
    clear hz
    have hvA : vz A = A := vz_fin hA
    have hAo : okW A := .inl hA
    have hAi : A < INF := Nat.lt_of_le_of_lt hA W6_lt
    have hAA : eqB A A = true := by rw [eqB_fin hAi hAi]; exact decide_eq_true rfl
    have HvA := Lib.hid hvA
    clear hvA
    have hnil := Lib.hid (sl_nil hl)
    go_enter Try.func6, Try.ntmps6
    go_wp2_with fail
    refine (hM.out _ (by (repeat' (first | (with_reducible exact Below.refl _ _) | (with_reducible assumption) | (with_reducible refine Ext.up _ ?_) | (with_reducible refine Below.alloc ?_ ?_ _) | (with_reducible refine Below.drew ?_) | (with_reducible refine Below.setCell ?_ ?_ _) | (with_reducible refine Below.setRow_ ?_ ?_ _) | go_size)))).mono ?_
    rintro _ _ ⟨rfl, g1, rfl⟩
    go_wp2
    go_loopw [9, 10, 11, 12, 13] (fun v9 v10 v11 v12 v13 wr => ∃ k : Nat, k ≤ n ∧ wr.ownsRow w.heap.size 24 1 v9 (n - k) (fls (zs.drop k).reverse) ∧ v10 = .int .i64 (lowN A (zs.drop k) : Nat) ∧ v11 = .int .i64 (highN A (zs.drop k) : Nat) ∧ v12 = .bool (thereN A (zs.drop k)) ∧ v13 = .int .i64 ((k : Int) - 1) ∧ Below w.heap.size w wr) (fun _ _ _ _ v13 _ => (intOf v13 + 1).toNat)
    case atStart => exact ⟨n, Nat.le_refl _, by rw [Nat.sub_self, show zs.drop n = [] by rw [← hln, List.drop_length]]; exact World.ownsRow_nil _ _ _ _, by rw [show zs.drop n = [] by rw [← hln, List.drop_length]]; rfl, by rw [show zs.drop n = [] by rw [← hln, List.drop_length]]; rfl, by rw [show zs.drop n = [] by rw [← hln, List.drop_length]]; rfl, rfl, g1.below⟩
    case round =>
      obtain ⟨k, hk, hown, rfl, rfl, rfl, rfl, hb⟩ := hrel
      obtain ⟨ao', cap, rfl⟩ := own_form hown
      have hzz := hb.size
      rcases k with _ | m
      · rw [List.drop_zero] at hown ⊢
        rw [Nat.sub_zero] at hown ⊢
        have hs1 : Sl wr ao' n cap (fls zs.reverse) := Sl.own hown
        have M2 := Lib.hid (hMb.out wr ao' cap hs1)
        have hq0 := Int.emod_nonneg pos (show (n : Int) + 1 ≠ 0 by omega)
        have hq1 := Int.emod_lt_of_pos pos (show (0 : Int) < (n : Int) + 1 by omega)
        obtain ⟨pn, hpn⟩ : ∃ p : Nat, pos % ((n : Int) + 1) = p := ⟨(pos % ((n : Int) + 1)).toNat, by omega⟩
        have hpl : pn ≤ n := by omega
        have hpl2 : (pn : Int) ≤ n := by omega
        have P := Lib.hid (fun w => pick_ret pos ((n : Int) + 1) (by omega) (by omega) w)
        rw [hpn] at P
        clear hpn hq0 hq1
        have hn2 : (n : Int) ≤ 200 := by omega
        have hle := hl.le
        have hle2 : (n : Int) ≤ c := by omega
        have hplc : (pn : Int) ≤ c := by omega
        have HF := Lib.hid (sl_front hl hpl)
        have HBk := Lib.hid (sl_back hl hpl)
        have HO := Lib.hid hown
        clear hown hs1
        rcases HE.out with ⟨rfl, _, e1, e2, e3⟩ | ⟨rfl, _, e1, e2, e3, e4⟩
        · rw [e1, e2, e3]
          clear e1 e2 e3 HE
          go_wp2_with fail
          refine M2.out.mono ?_
          rintro _ _ ⟨rfl, g2, rfl⟩
          have hb2 := hb.trans (g2.below.mono hb.size)
          cases hk : okB other with
          | true =>
            go_wp2_with (first | (go_at_call 18; refine (minus_ret hAi _).mono ?_; rintro _ _ ⟨rfl, g3, rfl⟩) | (go_at_call 16; refine (check_T hk _).mono ?_; rintro _ _ ⟨rfl, g4, rfl⟩) | (go_at_call 10; refine (known_ret _).mono ?_; rintro _ _ ⟨rfl, g5, rfl⟩))
            go_ret
            exact Ret.mk_of (hb2.trans (((g3.trans g4).trans g5).below.mono hb2.size)) rfl
          | false =>
            have HW : Hid (∀ (g3 : Ext g2.val) (g4 : Ext g3.val) (g5 : Ext g4.val), Sl (g5.val.alloc (.cells #[] 24)) ao pn c (fls (zs.take pn))) := Lib.hid (fun g3 g4 g5 =>
              have hb5 : Below w.heap.size w g5.val := hb2.trans (((g3.trans g4).trans g5).below.mono hb2.size)
              HF.out.keep (Nat.le_refl _) (hb5.alloc hb5.size _))
            go_wp2_with (first | (go_at_call 18; refine (minus_ret hAi _).mono ?_; rintro _ _ ⟨rfl, g3, rfl⟩) | (go_at_call 16; refine (check_F hk _).mono ?_; rintro _ _ ⟨rfl, g4, rfl⟩) | (go_at_call 14; refine (P.out _).mono ?_; rintro _ _ ⟨rfl, g5, rfl⟩) | (at_builtin; refine wp_app elemF rfl _ _ rfl (B := w.heap.size) (n := 0) (xs := []) (news := fls (zs.take pn)) rfl (own_new _ w.heap.size 24 #[] (by have := hb2.size; have := g3.size; have := g4.size; have := g5.size; omega) (by decide)) rfl (by rw [HF.out.len]; simp) (sl_nil HF.out) (HW.out g3 g4 g5).cells (fls_one _) (by omega) (by simp; have := hb2.size; have := g3.size; have := g4.size; have := g5.size; omega) ?_))
            intro ao3 cap3 w3 hown3 hb3
            have hb5 : Below w.heap.size w g5.val := hb2.trans (((g3.trans g4).trans g5).below.mono hb2.size)
            have hbw3 : Below w.heap.size w w3 := (hb5.alloc hb5.size _).trans hb3
            clear hb3
            go_wp2
            have hbk3 := HBk.out.keep (Nat.le_refl _) hbw3
            have ho4 : (w3.drew.alloc (.cells #[.float .f64 other] 24)).ownsRow w.heap.size 24 1 (.slice ao3 pn cap3) pn (fls (zs.take pn)) := (own_keep hown3 (Nat.le_refl _) ((Below.refl _ _).drew)).alloc _
            have hbw3' : Below w.heap.size w (w3.drew.alloc (.cells #[.float .f64 other] 24)) := hbw3.drew.alloc hbw3.size _
            clear hbk3 hown3
            go_region_held3 (fun _ => True) (first | trivial)
              (first | (refine step_app elemF rfl _ _ rfl (B := w.heap.size) (news := fls [other]) rfl ho4 rfl rfl (fun h => by cases h) (.inr ⟨w3.drew.heap.size, 0, rfl, new_cells w3.drew #[.float .f64 other] 24⟩) (fls_one _) (by omega) hbw3'.size ?_; intro ao4 cap4 w4 hown4 hb4)
                     | (refine step_app elemF rfl _ _ rfl (B := w.heap.size) (news := fls (zs.drop pn)) rfl hown4 rfl (by rw [HBk.out.len]; simp) (sl_nil HBk.out) (HBk.out.keep (Nat.le_refl _) (hbw3'.trans hb4)).cells (fls_one _) (by omega) (hbw3'.trans hb4).size ?_; intro ao5 cap5 w5 hown5 hb5))
            have hs5 : Sl w5 ao5 (pn + 1 + (n - pn)) cap5 (fls (zs.take pn ++ [other] ++ zs.drop pn)) := by rw [fls_append, fls_append]; exact Sl.own hown5
            have M3 := Lib.hid (hMm.out pn hk w5 ao5 cap5 hs5 hpl)
            have hbw5 : Below w.heap.size w w5 := (hbw3'.trans hb4).trans hb5
            clear hs5 hown5 hown4 ho4 hb4 hb5 hMm
            generalize pn + 1 + (n - pn) = ln at *
            go_wp2_with fail
            refine M3.out.mono ?_
            rintro _ _ ⟨rfl, g6, rfl⟩
            go_wp2_with (go_at_call 10; refine (known_ret _).mono ?_; rintro _ _ ⟨rfl, g7, rfl⟩)
            go_ret
            exact Ret.mk_of (hbw5.trans ((g6.trans g7).below.mono hbw5.size)) rfl
        · rw [e4]
          have hhl := highN_le A zs
          generalize lowN A zs = pl at *
          generalize highN A zs = ph at *
          have e1' : (0 : Int) < pl := by omega
          have e2' : (0 : Int) < ph := by omega
          have e3' : (pl : Int) ≤ 2 * ph := by omega
          have e5 : (ph : Int) ≤ 200 := by omega
          clear e4 HE hhl
          go_wp2_with fail
          refine M2.out.mono ?_
          rintro _ _ ⟨rfl, g2, rfl⟩
          have hb2 := hb.trans (g2.below.mono hb.size)
          cases hk : okB other with
          | true =>
            go_wp2_with (first | (go_at_call 18; refine (minus_ret hAi _).mono ?_; rintro _ _ ⟨rfl, g3, rfl⟩) | (go_at_call 16; refine (check_T hk _).mono ?_; rintro _ _ ⟨rfl, g4, rfl⟩) | (go_at_call 10; refine (known_ret _).mono ?_; rintro _ _ ⟨rfl, g5, rfl⟩))
            go_ret
            exact Ret.mk_of (hb2.trans (((g3.trans g4).trans g5).below.mono hb2.size)) rfl
          | false =>
            have HW : Hid (∀ (g3 : Ext g2.val) (g4 : Ext g3.val) (g5 : Ext g4.val), Sl (g5.val.alloc (.cells #[] 24)) ao pn c (fls (zs.take pn))) := Lib.hid (fun g3 g4 g5 =>
              have hb5 : Below w.heap.size w g5.val := hb2.trans (((g3.trans g4).trans g5).below.mono hb2.size)
              HF.out.keep (Nat.le_refl _) (hb5.alloc hb5.size _))
            go_wp2_with (first | (go_at_call 18; refine (minus_ret hAi _).mono ?_; rintro _ _ ⟨rfl, g3, rfl⟩) | (go_at_call 16; refine (check_F hk _).mono ?_; rintro _ _ ⟨rfl, g4, rfl⟩) | (go_at_call 14; refine (P.out _).mono ?_; rintro _ _ ⟨rfl, g5, rfl⟩) | (at_builtin; refine wp_app elemF rfl _ _ rfl (B := w.heap.size) (n := 0) (xs := []) (news := fls (zs.take pn)) rfl (own_new _ w.heap.size 24 #[] (by have := hb2.size; have := g3.size; have := g4.size; have := g5.size; omega) (by decide)) rfl (by rw [HF.out.len]; simp) (sl_nil HF.out) (HW.out g3 g4 g5).cells (fls_one _) (by omega) (by simp; have := hb2.size; have := g3.size; have := g4.size; have := g5.size; omega) ?_))
            intro ao3 cap3 w3 hown3 hb3
            have hb5 : Below w.heap.size w g5.val := hb2.trans (((g3.trans g4).trans g5).below.mono hb2.size)
            have hbw3 : Below w.heap.size w w3 := (hb5.alloc hb5.size _).trans hb3
            clear hb3
            go_wp2
            have hbk3 := HBk.out.keep (Nat.le_refl _) hbw3
            have ho4 : (w3.drew.alloc (.cells #[.float .f64 other] 24)).ownsRow w.heap.size 24 1 (.slice ao3 pn cap3) pn (fls (zs.take pn)) := (own_keep hown3 (Nat.le_refl _) ((Below.refl _ _).drew)).alloc _
            have hbw3' : Below w.heap.size w (w3.drew.alloc (.cells #[.float .f64 other] 24)) := hbw3.drew.alloc hbw3.size _
            clear hbk3 hown3
            go_region_held3 (fun _ => True) (first | trivial)
              (first | (refine step_app elemF rfl _ _ rfl (B := w.heap.size) (news := fls [other]) rfl ho4 rfl rfl (fun h => by cases h) (.inr ⟨w3.drew.heap.size, 0, rfl, new_cells w3.drew #[.float .f64 other] 24⟩) (fls_one _) (by omega) hbw3'.size ?_; intro ao4 cap4 w4 hown4 hb4)
                     | (refine step_app elemF rfl _ _ rfl (B := w.heap.size) (news := fls (zs.drop pn)) rfl hown4 rfl (by rw [HBk.out.len]; simp) (sl_nil HBk.out) (HBk.out.keep (Nat.le_refl _) (hbw3'.trans hb4)).cells (fls_one _) (by omega) (hbw3'.trans hb4).size ?_; intro ao5 cap5 w5 hown5 hb5))
            have hs5 : Sl w5 ao5 (pn + 1 + (n - pn)) cap5 (fls (zs.take pn ++ [other] ++ zs.drop pn)) := by rw [fls_append, fls_append]; exact Sl.own hown5
            have M3 := Lib.hid (hMm.out pn hk w5 ao5 cap5 hs5 hpl)
            have hbw5 : Below w.heap.size w w5 := (hbw3'.trans hb4).trans hb5
            clear hs5 hown5 hown4 ho4 hb4 hb5 hMm
            generalize pn + 1 + (n - pn) = ln at *
            go_wp2_with fail
            refine M3.out.mono ?_
            rintro _ _ ⟨rfl, g6, rfl⟩
            go_wp2_with (go_at_call 10; refine (known_ret _).mono ?_; rintro _ _ ⟨rfl, g7, rfl⟩)
            go_ret
            exact Ret.mk_of (hbw5.trans ((g6.trans g7).below.mono hbw5.size)) rfl
      · rw [show ((m + 1 : Nat) : Int) - 1 = (m : Int) by omega]
        obtain ⟨b, o, rfl, hbw, hc⟩ := hl.at (by omega)
        have hmz : m < zs.length := by omega
        have hx := hc m _ (by rw [fls_get, List.getElem?_eq_getElem hmz]; rfl)
        rw [← hb.cell (by exact hbw)] at hx
        have hdr : zs.drop m = zs[m] :: zs.drop (m + 1) := List.drop_eq_getElem_cons hmz
        have hlow := lowN_le A (zs.drop (m + 1))
        have hhigh := highN_le A (zs.drop (m + 1))
        rw [List.length_drop] at hlow hhigh
        have hlt63 := HZ.out zs[m] (List.getElem_mem hmz)
        generalize zs[m] = x at *
        unfold flV at hx
        have HD := Lib.hid hdr
        clear hdr hc
        have hnm : n - (m + 1) + 1 = n - m := by omega
        have HN := Lib.hid hnm
        clear hnm
        cases hk : okB x with
        | false =>
          have l1 := lowN_no (a := A) (D := zs.drop (m + 1)) hk
          have l2 := highN_no (a := A) (D := zs.drop (m + 1)) hk
          have l3 := thereN_no (a := A) (D := zs.drop (m + 1)) hk
          rw [← HD.out] at l1 l2 l3
          have L := Lib.hid (And.intro l1 (And.intro l2 l3))
          clear l1 l2 l3
          generalize zs.drop (m + 1) = D at *
          go_wp2_with (at_builtin; refine wp_app1 elemF rfl _ _ rfl (B := w.heap.size) rfl hown rfl rfl (by omega) hzz ?_)
          intro ao2 cap2 w2 hown2 hb2
          have hbw2 := hb.trans hb2
          have hx2 := (hb2.cell (p := ⟨b, o + m, none⟩) hbw).trans hx
          go_wp2_with (go_at_call 16; refine (check_F hk _).mono ?_; rintro _ _ ⟨rfl, g, rfl⟩)
          go_roundw
          case rel => exact ⟨m, by omega, by rw [HD.out, List.reverse_cons, fls_append, ← HN.out]; exact own_ext hown2 g, by rw [L.out.1], by rw [L.out.2.1], by rw [L.out.2.2], rfl, hbw2.trans (g.below.mono hbw2.size)⟩
          case measure => simp [intOf]
        | true =>
          have hxo := okB_ok hlt63 hk
          have l1 := lowN_yes (a := A) (D := zs.drop (m + 1)) hk
          have l2 := highN_yes (a := A) (D := zs.drop (m + 1)) hk
          have l3 := thereN_yes (a := A) (D := zs.drop (m + 1)) hk
          rw [← HD.out] at l1 l2 l3
          have c1 := leB_vz hxo hAo
          have c2 := geB_vz hxo hAo
          have c3 := eqB_vz hxo hAo
          rw [HvA.out] at c1 c2 c3
          generalize zs.drop (m + 1) = D at *
          rcases Nat.lt_trichotomy (vz x) A with hlt | hlt | hlt
          all_goals
            first
              | rw [decide_eq_true (show vz x ≤ A by omega)] at c1
              | rw [decide_eq_false (show ¬ vz x ≤ A by omega)] at c1
            first
              | rw [decide_eq_true (show A ≤ vz x by omega)] at c2
              | rw [decide_eq_false (show ¬ A ≤ vz x by omega)] at c2
            first
              | rw [decide_eq_true (show vz x = A by omega)] at c3 l3
              | rw [decide_eq_false (show ¬ vz x = A by omega)] at c3 l3
            first
              | rw [if_pos (show vz x ≤ A by omega)] at l1
              | rw [if_neg (show ¬ vz x ≤ A by omega)] at l1
            first
              | rw [if_pos (show A ≤ vz x by omega)] at l2
              | rw [if_neg (show ¬ A ≤ vz x by omega)] at l2
            have L := Lib.hid (And.intro l1 (And.intro l2 l3))
            clear l1 l2 l3 hlt
            generalize hth : thereN A D = th at *
            have HTH := Lib.hid hth
            clear hth
            generalize lowN A D = pl at *
            generalize highN A D = ph at *
            cases th
            all_goals
              go_wp2_with (at_builtin; refine wp_app1 elemF rfl _ _ rfl (B := w.heap.size) rfl hown rfl rfl (by omega) hzz ?_)
              intro ao2 cap2 w2 hown2 hb2
              have hbw2 := hb.trans hb2
              have hx2 := (hb2.cell (p := ⟨b, o + m, none⟩) hbw).trans hx
              have gx := ext_cell hx2
              go_wp2_with (go_at_call 16; refine (check_T hk _).mono ?_; rintro _ _ ⟨rfl, g, rfl⟩)
              go_roundw
              case rel => exact ⟨m, by omega, by rw [HD.out, List.reverse_cons, fls_append, ← HN.out]; exact own_ext hown2 g, by rw [L.out.1]; go_num, by rw [L.out.2.1]; go_num, by rw [L.out.2.2]; rfl, rfl, hbw2.trans (g.below.mono hbw2.size)⟩
              case measure => simp [intOf]
end Go.Proofs.Ytiancafoipllbaa
