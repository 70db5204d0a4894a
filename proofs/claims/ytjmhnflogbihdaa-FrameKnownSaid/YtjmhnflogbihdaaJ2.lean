/- What is proved: the walk of FrameTorn of layer 4. No condition. -/
import Derived.Test.YtjmhnflogbihdaaJ1
import Derived.Test.YtjmhnflogbihdaaX3
import Derived.Test.YtjmhnflogbihdaaAlloc
namespace Go.Proofs.Ytjmhnflogbihdaa
open Go.RowKit

theorem elemI : Elem Try.prog 49 3 1 := Elem.mk' Try.underlying49 (by kernel_rfl) (z := .int .i64 0) (bytes := 8) rfl (by decide) (by decide)

def ints (l : List Nat) : List Value := l.map fun (n : Nat) => Value.int .i64 (n : Int)
def ends (S : List (Nat × List Nat)) : List Nat := (List.range S.length).map fun i => pos S (i + 1)
theorem ends_length (S : List (Nat × List Nat)) : (ends S).length = S.length := by simp [ends]
theorem ends_at {S : List (Nat × List Nat)} {m : Nat} (h : m < S.length) : (ints (ends S))[m]? = some (.int .i64 (pos S (m + 1) : Nat)) := by simp [ints, ends, h]
theorem ends_snoc (S : List (Nat × List Nat)) (p : Nat × List Nat) : ends (S ++ [p]) = ends S ++ [(cat (S ++ [p])).length] := by
  unfold ends
  rw [List.length_append, List.length_singleton, List.range_succ, List.map_append]
  congr 1
  · refine List.map_congr_left fun i hi => ?_
    rw [List.mem_range] at hi
    unfold pos
    rw [List.take_append_of_le_length (by omega)]
  · simp only [List.map_cons, List.map_nil]
    congr 1
    have := pos_all (S ++ [p])
    rw [List.length_append, List.length_singleton] at this
    exact this

/-- Their rows are not one. -/
def sep (x y : Value) : Prop := ∀ k, x.ownBlock = some k → y.ownBlock ≠ some k
theorem sep.symm {x y : Value} (h : sep x y) : sep y x := fun k hk e => h k e hk
theorem sep_new {w1 : World} {u v : Value} {g n cap B e s m : Nat} {xs : List Value} (hu : w1.ownsRow B e s u m xs) (hs : sep v u) (hat : v.ownBlock = some g ∨ g = w1.heap.size) : sep (.slice (some ⟨g, 0, none⟩) n cap) u := fun k hk e2 => by
  have : g = k := by simpa [Value.ownBlock] using hk
  subst this
  rcases hat with h | h
  · exact hs _ h e2
  · have := (hu.lt _ e2).2; omega
theorem own_apart {w w' : World} {B e s n : Nat} {u v : Value} {xs : List Value} (h : w.ownsRow B e s u n xs) (hgr : w.grownBy w' v.ownBlock) (hs : sep u v) : w'.ownsRow B e s u n xs := by
  refine h.kept hgr ?_
  cases e : u.ownBlock with
  | none => exact .inl rfl
  | some k => exact .inr fun e2 => hs k e e2.symm

def m200 (n : Nat) : Nat := min n 200
theorem m200_le (n : Nat) : m200 n ≤ 200 ∧ m200 n ≤ n := by unfold m200; omega
theorem run_min200 (ts : Array TypeId) (t : TypeId) (n : Nat) (w : World) : (Builtin.min_ ts t #[.int .i64 (n : Int), .int .i64 200]).run Try.prog w = .ok (.int .i64 (m200 n : Nat)) w := by
  simp [Builtin.min_, Builtin.min2, m200]
  split <;> omega

theorem own_lay {wr : World} {B e s n N : Nat} {v : Value} {xs : List Value} (h : wr.ownsRow B e s v n xs) (g : Ext wr) (hN : wr.heap.size ≤ N) (cs : Array Value) : (g.val.setRow N cs).ownsRow B e s v n xs :=
  own_setRow_ne (own_ext h g) (fun e => by have := (h.lt _ e).2; omega) cs
theorem fcells_snoc (R : List Fm) (f : Fm) : fcells (R ++ [f]) = fcells R ++ f.cells := by simp [fcells]
theorem own_cells {w : World} {B e s n c m : Nat} {g : Nat} {xs : List Value} (h : w.ownsRow B e s (.slice (some ⟨g, 0, none⟩) n c) m xs) : ∀ (j : Nat) u, xs[j]? = some u → w.cell? ((⟨g, 0, none⟩ : Addr).add j) = some u := fun j u hj => h.cells (g := g) rfl j u hj

/-- What the loop holds: so many frames were put. -/
def RT (w : World) (n : Nat) (v5 v6 v7 v8 : Value) (wr : World) : Prop := ∃ (j : Nat) (S : List (Nat × List Nat)) (R : List Fm), j ≤ n ∧ j ≤ 30 ∧ v8 = .int .i64 j ∧ S.length = j ∧ R.length = j ∧ Good S ∧
  wr.ownsRow w.heap.size 5 1 v5 (cat S).length (bts (cat S)) ∧ wr.ownsRow w.heap.size 3 1 v6 j (ints (ends S)) ∧ wr.ownsRow w.heap.size 33 2 v7 j (fcells R) ∧ (∀ f ∈ R, Sl w f.ao f.body.length f.cap (bts f.body)) ∧ told R = tells S ∧
  sep v5 v6 ∧ sep v5 v7 ∧ sep v6 v7 ∧ (cat S).length ≤ 207 * j ∧ Below w.heap.size w wr

theorem row_reads {w : World} {B n c : Nat} {ao : Option Addr} {R : List Fm} (h : w.ownsRow B 33 2 (.slice ao n c) n (fcells R)) (hn : R.length = n) (hR : ∀ f ∈ R, Sl w f.ao f.body.length f.cap (bts f.body)) : FrR w ao n c R := by
  subst hn
  rcases h.2 with ⟨hv, h0⟩ | ⟨g, c, cur, hv, hb, hg, hn, hm, hs, ht⟩
  · obtain ⟨rfl, e2, rfl⟩ := Value.slice.inj hv
    have : R = [] := List.eq_nil_of_length_eq_zero e2
    subst this
    exact ⟨rfl, Nat.le_refl _, fun _ => rfl, fun i f hf => by simp at hf⟩
  · cases hv
    refine ⟨rfl, hn, fun h => by (cases h), fun i f hf => ⟨g, 0, rfl, ?_, ?_, hR f (List.mem_of_getElem? hf)⟩⟩
    · have := h.cells (g := g) rfl (i * 2) _ (fcells_at R i f hf).1
      rw [add_plain_addr] at this
      exact this
    · have := h.cells (g := g) rfl (i * 2 + 1) _ (fcells_at R i f hf).2
      rw [add_plain_addr] at this
      rw [Nat.add_assoc]
      exact this
theorem FrR.front {w : World} {ao : Option Addr} {n c m : Nat} {R : List Fm} (h : FrR w ao n c R) (hm : m ≤ n) : FrR w ao m c (R.take m) := by
  have := h.len
  have := h.le
  refine ⟨by rw [List.length_take]; omega, by omega, h.nil, fun i f hf => ?_⟩
  rw [List.getElem?_take] at hf
  split at hf
  · exact h.each i f hf
  · cases hf
theorem slice42_h (a : Option Addr) (len cap : Nat) (w : World) (kh : IntKind) (h : Int) (h0 : 0 ≤ h) (h2 : h ≤ cap) :
    (Instr.slice 42 (.slice a len cap) none (some (.int kh h)) none).run Try.prog w = .ok (.slice a h.toNat cap) w := by
  rw [run_slice_h w 42 a len cap Try.underlying42 kh h h0 h2]
  unfold sliced
  have e : ∀ x : Option Addr, x.map (fun y : Addr => y.add 0) = x := fun x => by cases x <;> simp [add_zero_addr]
  have hs : (sizeOf (Try.prog.elem 42)).run Try.prog w = .ok 2 w := by kernel_rfl
  simp [e, hs]
attribute [local go_sem high] slice42_h

attribute [local go_sem ↓] run_min200 load33 store33
attribute [local go_sem] ones_frame sub_two
set_option maxRecDepth 100000 in
set_option maxHeartbeats 4000000 in
theorem FrameTorn_walk {w : World} {ao : Option Addr} {n c : Nat} {L : List Fm} (hL : FrR w ao n c L) (hs : ∀ f ∈ L, Small f.body) (hm : ∀ f ∈ L, f.body.length ≤ 9223372036854775807) (hmax : n ≤ 9223372036854775807) (cut : Int) :
    Calls Try.prog 7 #[.slice ao n c, .int .i64 cut] w (Ret (.bool true) w) := by
  go_enter Try.func7, Try.ntmps7
  go_wp2_with fail
  go_loopw [5, 6, 7, 8] (fun v5 v6 v7 v8 wr => RT w n v5 v6 v7 v8 wr) (fun _ _ _ v8 _ => 30 - (intOf v8).toNat)
  case atStart => 
    exact ⟨0, [], [], by omega, by omega, rfl, rfl, rfl, fun p hp => by simp at hp, World.ownsRow_nil _ _ _ _, World.ownsRow_nil _ _ _ _, World.ownsRow_nil _ _ _ _, fun f hf => by simp at hf, rfl, (fun k hk => by cases hk), (fun k hk => by cases hk), (fun k hk => by cases hk), by simp [cat], Below.refl _ _⟩
  case round =>
    obtain ⟨j, S, R, hj, hj30, hv8, hSj, hRj, hS, h5, h6, h7, hR, htold, s56, s57, s67, hcat, hb⟩ := hrel
    subst hv8
    obtain ⟨a5, c5, rfl⟩ := own_form h5
    obtain ⟨a6, c6, rfl⟩ := own_form h6
    obtain ⟨a7, c7, rfl⟩ := own_form h7
    have hz := hb.size
    by_cases hlt : j < n ∧ j < 30
    · obtain ⟨h1, h2⟩ := hlt
      have h1' : (j : Int) < n := by omega
      have h2' : (j : Int) < 30 := by omega
      obtain ⟨f, hf⟩ : ∃ f, L[j]? = some f := ⟨_, List.getElem?_eq_getElem (by rw [hL.len]; exact h1)⟩
      have hfm := List.mem_of_getElem? hf
      have q3w : Sl w f.ao f.body.length f.cap (bts f.body) := (by obtain ⟨_, _, _, _, _, h⟩ := hL.each j f hf; exact h)
      obtain ⟨b, o, rfl, q1, q2, q3⟩ := (hL.keep (Nat.le_refl _) hb).each j f hf
      have hm1 := hm f hfm
      have hs1 := hs f hfm
      have e1 := ext_cell q1
      have e2 := ext_cell q2
      unfold Fm.val at e2
      have hm2 := m200_le f.body.length
      have hle := q3.le
      have hm3 : ((m200 f.body.length : Nat) : Int) ≤ f.cap := by omega
      have p1 := Int.emod_nonneg f.kind (show (255 : Int) ≠ 0 by decide)
      have p2 := Int.emod_lt_of_pos f.kind (show (0 : Int) < 255 by decide)
      obtain ⟨t, ht⟩ : ∃ t : Nat, f.kind % 255 = (t : Int) := ⟨_, (Int.toNat_of_nonneg p1).symm⟩
      have hpick := fun g : Ext wr => Pick_any f.kind 255 (by decide) (by decide) g.val
      rw [ht] at hpick p2
      have ht255 : t < 255 := by omega
      clear q1 q2 ht p1 p2
      go_wp2_with fail
      (refine wp_region_lay_tail 22 21 (fun N => .pointer (some ⟨N, 0, none⟩)) (.cells #[.int .i64 0, .slice none 0 0] 33) (by kernel_rfl) (by kernel_rfl) ?_; simp only [List.take_succ_cons, List.take_zero, List.drop_succ_cons, List.drop_zero]; (repeat (first | (refine grow_lay rfl (fun _ => rfl) (fun _ _ => (by simp [go_sem])) ?_; simp only [Act.put, List.setIfInBounds_toArray, List.set_cons_succ, List.set_cons_zero]) | (refine grow_step rfl (fun K hK => ?_); go_simp; (first | (refine hK _ ?_; clear hK K) | (apply Exists.intro; refine ⟨fun _ => ?_, hK _ ?_⟩; ((go_at_call 19; exact hpick _)); clear hK K))))); refine (fun N w' hN lN eN ⟨g, he⟩ => ?_); subst he; have rN := rowOf_of eN; have sN := soft_of eN; clear eN)
      have hwN : w.heap.size ≤ N := Nat.le_trans hz hN
      have kX : Below wr.heap.size wr (g.val.setRow N #[.int .i64 (1 + (t : Int)), .slice f.ao (m200 f.body.length) f.cap]) := Below.setRow_ g.below hN _
      have bX := hb.trans (kX.mono hz)
      have x0 : (g.val.setRow N #[.int .i64 (1 + (t : Int)), .slice f.ao (m200 f.body.length) f.cap]).cell? ⟨N, 0, none⟩ = some (.int .i64 (1 + (t : Int))) := by rw [cell_setRow _ _ _ _ _ sN, if_pos rfl]; rfl
      have x1 : (g.val.setRow N #[.int .i64 (1 + (t : Int)), .slice f.ao (m200 f.body.length) f.cap]).cell? ⟨N, 1, none⟩ = some (.slice f.ao (m200 f.body.length) f.cap) := by rw [cell_setRow _ _ _ _ _ sN, if_pos rfl]; rfl
      have x2 : rowOf (g.val.setRow N #[.int .i64 (1 + (t : Int)), .slice f.ao (m200 f.body.length) f.cap]) N = #[.int .i64 (1 + (t : Int)), .slice f.ao (m200 f.body.length) f.cap] := by rw [rowOf_setRow _ _ _ _ sN, if_pos rfl]
      have x3 : N < (g.val.setRow N #[.int .i64 (1 + (t : Int)), .slice f.ao (m200 f.body.length) f.cap]).heap.size := by simpa [World.setRow] using lN
      have o5 := own_lay h5 g hN #[.int .i64 (1 + (t : Int)), .slice f.ao (m200 f.body.length) f.cap]
      have o6 := own_lay h6 g hN #[.int .i64 (1 + (t : Int)), .slice f.ao (m200 f.body.length) f.cap]
      have o7 := own_lay h7 g hN #[.int .i64 (1 + (t : Int)), .slice f.ao (m200 f.body.length) f.cap]
      have n5 : ∀ k, (Value.slice a5 (cat S).length c5).ownBlock = some k → k < N := fun k hk => Nat.lt_of_lt_of_le (h5.lt k hk).2 hN
      have n6 : ∀ k, (Value.slice a6 j c6).ownBlock = some k → k < N := fun k hk => Nat.lt_of_lt_of_le (h6.lt k hk).2 hN
      have n7 : ∀ k, (Value.slice a7 j c7).ownBlock = some k → k < N := fun k hk => Nat.lt_of_lt_of_le (h7.lt k hk).2 hN
      have sb := (q3.keep (Nat.le_refl _) kX).frontB (n' := m200 f.body.length) (cap' := f.cap) (q := f.body.take (m200 f.body.length)) (by omega) (by omega) (by omega) rfl
      have hbl : (f.body.take (m200 f.body.length)).length = m200 f.body.length := by rw [List.length_take]; omega
      go_wp2_with fail
      generalize hX : g.val.setRow N #[.int .i64 (1 + (t : Int)), .slice f.ao (m200 f.body.length) f.cap] = X at *
      clear hX
      have zX := bX.size
      refine (Put_good_int sb (hs1.take _) (by omega) ht255).mono ?_
      rintro _ w4 ⟨a4, c4, rfl, hb4, hown4⟩
      obtain ⟨g4, cc4, hv, hB4, hg4⟩ := hown4.form (by omega)
      cases hv
      have b4 := bX.trans (hb4.mono zX)
      have z4 := hb4.size
      have p5 := own_keep o5 (Nat.le_refl _) hb4
      have p6 := own_keep o6 (Nat.le_refl _) hb4
      have p7 := own_keep o7 (Nat.le_refl _) hb4
      have y2 : rowOf w4 N = #[.int .i64 (1 + (t : Int)), .slice f.ao (m200 f.body.length) f.cap] := by rw [(below_row hb4 x3).1, x2]
      have y3 : N < w4.heap.size := Nat.lt_of_lt_of_le x3 z4
      have hfl : (fr (1 + t) (f.body.take (m200 f.body.length))).length = m200 f.body.length + 7 := by rw [fr_length, hbl]
      clear x0 x1 x2 o5 o6 o7 e1 e2
      obtain ⟨F, hF⟩ : ∃ F, F = fr (1 + t) (f.body.take (m200 f.body.length)) := ⟨_, rfl⟩
      rw [← hF] at hfl hown4
      have hcells := own_cells hown4
      have HF : Hid (F = fr (1 + t) (f.body.take (m200 f.body.length))) := hF
      have HFL : Hid (F.length = m200 f.body.length + 7) := hfl
      have HS : Hid (S.length = j) := hSj
      have HR : Hid (R.length = j) := hRj
      have HTO : Hid (told R = tells S) := htold
      have HB : Hid ((f.body.take (m200 f.body.length)).length = m200 f.body.length) := hbl
      have hcat1 : (cat S).length + (m200 f.body.length + 7) ≤ 1099511627776 := by omega
      have hBw4 : w.heap.size ≤ w4.heap.size := b4.size
      clear hF hfl hSj hRj htold hbl hown4
      go_wp2_with (at_builtin; refine wp_app_at elemB rfl _ _ rfl (B := w.heap.size) rfl p5 rfl (news := bts F) (by rw [bts_length, Nat.mul_one, HFL.out]) hcells (bts_one F) (by omega) hcat1 hBw4 ?_)
      intro g5 cap5 w5 hown5 hgr5 hat5 hlt5
      have q5 := own_apart p6 hgr5 s56.symm
      have q7 := own_apart p7 hgr5 s57.symm
      have t56 : sep (.slice (some ⟨g5, 0, none⟩) ((cat S).length + (m200 f.body.length + 7)) cap5) (.slice a6 j c6) := sep_new p6 s56 hat5
      have t57 : sep (.slice (some ⟨g5, 0, none⟩) ((cat S).length + (m200 f.body.length + 7)) cap5) (.slice a7 j c7) := sep_new p7 s57 hat5
      have y4 : rowOf w5 N = #[.int .i64 (1 + (t : Int)), .slice f.ao (m200 f.body.length) f.cap] := by rw [(grown_row hgr5 y3 (fun e => Nat.lt_irrefl _ (n5 _ e))).1, y2]
      have z5 := hgr5.size
      have y5 : N < w5.heap.size := Nat.lt_of_lt_of_le y3 z5
      have b5 := b4.grown hgr5 hBw4 (fun k hk => (p5.lt k hk).1)
      obtain ⟨M, hM⟩ : ∃ M, M = (cat S).length + (m200 f.body.length + 7) := ⟨_, rfl⟩
      rw [← hM] at hown5 t56 t57 hcat1
      rw [← hM]
      have HM : Hid (M = (cat S).length + (m200 f.body.length + 7)) := hM
      have e5 := below1 w5 (.cells #[.int .i64 (M : Int)] 3)
      have hnb : (w5.alloc (.cells #[.int .i64 (M : Int)] 3)).heap[w5.heap.size]? = some (.cells #[.int .i64 (M : Int)] 3) := heap_alloc_new _ _
      have a5' := own_keep hown5 (Nat.le_refl _) e5
      have a6' := own_keep q5 (Nat.le_refl _) e5
      have a7' := own_keep q7 (Nat.le_refl _) e5
      have y6 : rowOf (w5.alloc (.cells #[.int .i64 (M : Int)] 3)) N = #[.int .i64 (1 + (t : Int)), .slice f.ao (m200 f.body.length) f.cap] := by rw [(below_row e5 y5).1, y4]
      have y7 : N < (w5.alloc (.cells #[.int .i64 (M : Int)] 3)).heap.size := by simp; omega
      have b5' := b5.alloc b5.size (.cells #[.int .i64 (M : Int)] 3)
      have zb5' := b5'.size
      clear hM hgr5 hat5 p5 p6 p7 y2 y4 hcells e5 q5 q7 hown5
      go_wp2_with (at_builtin; refine wp_app_at elemI rfl _ _ rfl (B := w.heap.size) rfl a6' rfl (news := [.int .i64 (M : Int)]) rfl (World.news_of_block hnb) (by intro u hu; simp only [List.mem_cons, List.not_mem_nil, or_false] at hu; rw [hu]; rfl) (by decide) (by omega) zb5' ?_)
      intro g6 cap6 w6 hown6 hgr6 hat6 hlt6
      have t56' : sep (.slice (some ⟨g6, 0, none⟩) (j + 1) cap6) (.slice (some ⟨g5, 0, none⟩) M cap5) := sep_new a5' t56.symm (by simpa using hat6)
      have t67' : sep (.slice (some ⟨g6, 0, none⟩) (j + 1) cap6) (.slice a7 j c7) := sep_new a7' s67 (by simpa using hat6)
      have c5' := own_apart a5' hgr6 t56
      have c7' := own_apart a7' hgr6 s67.symm
      have y8 : rowOf w6 N = #[.int .i64 (1 + (t : Int)), .slice f.ao (m200 f.body.length) f.cap] := by rw [(grown_row hgr6 y7 (fun e => Nat.lt_irrefl _ (n6 _ e))).1, y6]
      have z6 := hgr6.size
      have y9 : N < w6.heap.size := Nat.lt_of_lt_of_le y7 z6
      have b6 := b5'.grown hgr6 zb5' (fun k hk => (a6'.lt k hk).1)
      have e6 := below1 w6 (.cells #[.int .i64 (1 + (t : Int)), .slice f.ao (m200 f.body.length) f.cap] 33)
      have hnb6 : (w6.alloc (.cells #[.int .i64 (1 + (t : Int)), .slice f.ao (m200 f.body.length) f.cap] 33)).heap[w6.heap.size]? = some (.cells #[.int .i64 (1 + (t : Int)), .slice f.ao (m200 f.body.length) f.cap] 33) := heap_alloc_new _ _
      have d5 := own_keep c5' (Nat.le_refl _) e6
      have d6 := own_keep hown6 (Nat.le_refl _) e6
      have d7 := own_keep c7' (Nat.le_refl _) e6
      have b6' := b6.alloc b6.size (.cells #[.int .i64 (1 + (t : Int)), .slice f.ao (m200 f.body.length) f.cap] 33)
      have zb6' := b6'.size
      clear hgr6 hat6 a5' a6' a7' y6 e6 c5' c7' hown6 hnb
      go_wp2_with (at_builtin; refine wp_app_at elemF rfl _ _ rfl (B := w.heap.size) rfl d7 rfl (news := [.int .i64 (1 + (t : Int)), .slice f.ao (m200 f.body.length) f.cap]) rfl (World.news_of_block hnb6) (by intro u hu; simp only [List.mem_cons, List.not_mem_nil, or_false] at hu; rcases hu with rfl | rfl <;> rfl) (by decide) (by omega) zb6' ?_)
      intro g7 cap7 w7 hown7 hgr7 hat7 hlt7
      have t57' : sep (.slice (some ⟨g7, 0, none⟩) (j + 1) cap7) (.slice (some ⟨g5, 0, none⟩) M cap5) := sep_new d5 t57.symm (by simpa using hat7)
      have t67'' : sep (.slice (some ⟨g7, 0, none⟩) (j + 1) cap7) (.slice (some ⟨g6, 0, none⟩) (j + 1) cap6) := sep_new d6 t67'.symm (by simpa using hat7)
      have f5 := own_apart d5 hgr7 t57
      have f6 := own_apart d6 hgr7 t67'
      have b7 := b6'.grown hgr7 zb6' (fun k hk => (d7.lt k hk).1)
      clear hgr7 hat7 d5 d6 d7 hnb6 y8
      go_wp2_with fail
      go_roundw
      case rel =>
        have hcS : cat (S ++ [(1 + t, f.body.take (m200 f.body.length))]) = cat S ++ F := by rw [cat_append, HF.out]; simp [cat]
        have hMl : (cat (S ++ [(1 + t, f.body.take (m200 f.body.length))])).length = M := by rw [hcS, List.length_append, HFL.out, HM.out]
        refine ⟨j + 1, S ++ [(1 + t, f.body.take (m200 f.body.length))], R ++ [⟨1 + (t : Int), f.body.take (m200 f.body.length), f.ao, f.cap⟩], by omega, by omega, rfl, by simp [HS.out], by simp [HR.out], ?_, ?_, ?_, ?_, ?_, ?_, t56'.symm, t57'.symm, t67''.symm, ?_, b7⟩
        · intro p hp
          rcases List.mem_append.1 hp with h | h
          · exact hS p h
          · rw [List.mem_singleton] at h
            subst h
            exact ⟨by omega, by omega, by rw [HB.out]; omega, hs1.take _⟩
        · rw [hMl, hcS, bts_append]; exact f5
        · rw [ends_snoc, hMl]
          show w7.ownsRow w.heap.size 3 1 _ (j + 1) (List.map _ _)
          rw [List.map_append]
          exact f6
        · rw [fcells_snoc]
          show w7.ownsRow w.heap.size 33 2 _ (j + 1) (fcells R ++ [.int .i64 (1 + (t : Int)), .slice f.ao (f.body.take (m200 f.body.length)).length f.cap])
          rw [HB.out]
          exact hown7
        · intro f' hf'
          rcases List.mem_append.1 hf' with h | h
          · exact hR f' h
          · rw [List.mem_singleton] at h
            subst h
            have hle9 := q3w.le
            have hm9 := hm2.2
            exact q3w.frontB (by show (f.body.take _).length ≤ _; rw [HB.out]; exact hm9) (by show (f.body.take _).length ≤ _; rw [HB.out]; exact Nat.le_trans hm9 hle9) (Nat.le_refl _) (by show _ = f.body.take (f.body.take _).length; rw [HB.out])
        · have := HTO.out
          unfold told tells at *
          rw [List.map_append, List.map_append, this]
          simp
        · rw [hMl, HM.out]; omega
      case measure => simp [intOf]; omega
    · have HTO : Hid (told R = tells S) := htold
      have hSl : (cat S).length ≤ 6210 := by omega
      have hS5 := (Sl.own h5).le
      have HRl : Hid (R.length = j) := hRj
      have HSl : Hid (S.length = j) := hSj
      have hexit : (j < n ∧ ¬ j < 30) ∨ ¬ j < n := by omega
      clear hRj hSj htold hlt s56 s57 s67
      rcases hexit with ⟨hjn, hj3⟩ | hjn
      · have hjn' : (j : Int) < n := by omega
        have hj30' : ¬ (j : Int) < 30 := by omega
        go_wp2_with fail
        refine (Pick_in cut (((cat S).length : Int) + 1) (by omega) (by omega) _).mono ?_
        rintro _ _ ⟨x, hx, rfl, g1, rfl⟩
        have hxc : x ≤ (cat S).length := by omega
        have hxc' : (x : Int) ≤ c5 := by omega
        have pS := ((Sl.own h5).ext g1).frontB (n' := x) (cap' := c5) (q := (cat S).take x) hxc (by omega) (Nat.le_refl _) rfl
        go_wp2_with fail
        refine (Scan_any pS (hS.small.take x) (by omega)).mono ?_
        rintro _ w2 ⟨i, G, vG, hgo, hend, htG, rfl, hb2, hFG⟩
        obtain ⟨av, cv, rfl⟩ := own_form hFG.row
        obtain ⟨P, hP⟩ : ∃ P, P = stP ((cat S).take x) i := ⟨_, rfl⟩
        rw [← hP]
        have HP : Hid (P = stP ((cat S).take x) i) := hP
        have HG : Hid (told G = stF ((cat S).take x) i) := htG
        have hGi : G.length = i := by have := congrArg List.length htG; simpa [told, stF_length] using this
        have FG := hFG.reads rfl
        rw [hGi] at FG ⊢
        have b2 := (g1.up hb).trans (hb2.mono (Nat.le_trans hz g1.size))
        have u6 := own_keep (own_ext h6 g1) (Nat.le_refl _) hb2
        have u7 := own_keep (own_ext h7 g1) (Nat.le_refl _) hb2
        have F7 := row_reads u7 HRl.out (fun f hf => (hR f hf).keep (Nat.le_refl _) b2)
        clear hP htG hGi hFG h5 h6 h7 pS hR u7
        go_wp2_with fail
        go_loop [14, 15] (fun v q => ∃ m : Nat, m ≤ j ∧ pos S m ≤ x ∧ v = .int .i64 m ∧ q = .int .i64 (pos S m : Nat)) (fun v _ => j - (intOf v).toNat)
        case atStart => exact ⟨0, by omega, Nat.zero_le _, rfl, rfl⟩
        case round =>
          obtain ⟨m, hmj, hpm, rfl, rfl⟩ := hrel
          by_cases hlm : m < j
          · have hlm' : (m : Int) < j := by omega
            obtain ⟨b6, o6, rfl, _, hc6⟩ := (Sl.own u6).at (by omega)
            have hcell := hc6 m _ (ends_at (by rw [HSl.out]; exact hlm))
            by_cases hpx : pos S (m + 1) ≤ x
            · have hpx' : ((pos S (m + 1) : Nat) : Int) ≤ x := by omega
              go_wp2_with fail
              go_round
              case rel => exact ⟨m + 1, by omega, hpx, rfl, rfl⟩
              case measure => simp [intOf]; omega
            · have hpx' : ¬ ((pos S (m + 1) : Nat) : Int) ≤ x := by omega
              obtain ⟨t1, t2, t3⟩ := torn_told hS (cut := x) (m := m) (i := i) (by rw [HSl.out]; exact hmj) hpm (.inr (by omega)) hgo hend
              subst t1
              have hPm : P = pos S i := HP.out.trans t2
              subst hPm
              have hmc : (i : Int) ≤ c7 := by have := F7.le; omega
              go_wp2_with fail
              refine (SameFrames_true FG (F7.front hmj) ?_ (fun f hf => by have := told_le HG.out f hf; rw [List.length_take] at this; omega) (by omega)).mono ?_
              · rw [HG.out, t3]
                have := HTO.out
                unfold told tells at *
                rw [List.map_take, List.map_take, this]
              rintro _ _ ⟨rfl, g9, rfl⟩
              go_wp2_with ((go_at_call 9; refine (known_any _).mono ?_; rintro _ _ ⟨rfl, g10, rfl⟩))
              go_ret
              exact Ret.mk_of (g10.up (g9.up b2)) (by simp)
          · have hlm' : ¬ (m : Int) < j := by omega
            obtain rfl : m = j := by omega
            obtain ⟨t1, t2, t3⟩ := torn_told hS (cut := x) (m := m) (i := i) (by rw [HSl.out]; exact hmj) hpm (.inl HSl.out.symm) hgo hend
            subst t1
            have hPm : P = pos S i := HP.out.trans t2
            subst hPm
            have hmc : (i : Int) ≤ c7 := by have := F7.le; omega
            go_wp2_with fail
            refine (SameFrames_true FG (F7.front hmj) ?_ (fun f hf => by have := told_le HG.out f hf; rw [List.length_take] at this; omega) (by omega)).mono ?_
            · rw [HG.out, t3]
              have := HTO.out
              unfold told tells at *
              rw [List.map_take, List.map_take, this]
            rintro _ _ ⟨rfl, g9, rfl⟩
            go_wp2_with ((go_at_call 9; refine (known_any _).mono ?_; rintro _ _ ⟨rfl, g10, rfl⟩))
            go_ret
            exact Ret.mk_of (g10.up (g9.up b2)) (by simp)
      · have hjn' : ¬ (j : Int) < n := by omega
        go_wp2_with fail
        refine (Pick_in cut (((cat S).length : Int) + 1) (by omega) (by omega) _).mono ?_
        rintro _ _ ⟨x, hx, rfl, g1, rfl⟩
        have hxc : x ≤ (cat S).length := by omega
        have hxc' : (x : Int) ≤ c5 := by omega
        have pS := ((Sl.own h5).ext g1).frontB (n' := x) (cap' := c5) (q := (cat S).take x) hxc (by omega) (Nat.le_refl _) rfl
        go_wp2_with fail
        refine (Scan_any pS (hS.small.take x) (by omega)).mono ?_
        rintro _ w2 ⟨i, G, vG, hgo, hend, htG, rfl, hb2, hFG⟩
        obtain ⟨av, cv, rfl⟩ := own_form hFG.row
        obtain ⟨P, hP⟩ : ∃ P, P = stP ((cat S).take x) i := ⟨_, rfl⟩
        rw [← hP]
        have HP : Hid (P = stP ((cat S).take x) i) := hP
        have HG : Hid (told G = stF ((cat S).take x) i) := htG
        have hGi : G.length = i := by have := congrArg List.length htG; simpa [told, stF_length] using this
        have FG := hFG.reads rfl
        rw [hGi] at FG ⊢
        have b2 := (g1.up hb).trans (hb2.mono (Nat.le_trans hz g1.size))
        have u6 := own_keep (own_ext h6 g1) (Nat.le_refl _) hb2
        have u7 := own_keep (own_ext h7 g1) (Nat.le_refl _) hb2
        have F7 := row_reads u7 HRl.out (fun f hf => (hR f hf).keep (Nat.le_refl _) b2)
        clear hP htG hGi hFG h5 h6 h7 pS hR u7
        go_wp2_with fail
        go_loop [14, 15] (fun v q => ∃ m : Nat, m ≤ j ∧ pos S m ≤ x ∧ v = .int .i64 m ∧ q = .int .i64 (pos S m : Nat)) (fun v _ => j - (intOf v).toNat)
        case atStart => exact ⟨0, by omega, Nat.zero_le _, rfl, rfl⟩
        case round =>
          obtain ⟨m, hmj, hpm, rfl, rfl⟩ := hrel
          by_cases hlm : m < j
          · have hlm' : (m : Int) < j := by omega
            obtain ⟨b6, o6, rfl, _, hc6⟩ := (Sl.own u6).at (by omega)
            have hcell := hc6 m _ (ends_at (by rw [HSl.out]; exact hlm))
            by_cases hpx : pos S (m + 1) ≤ x
            · have hpx' : ((pos S (m + 1) : Nat) : Int) ≤ x := by omega
              go_wp2_with fail
              go_round
              case rel => exact ⟨m + 1, by omega, hpx, rfl, rfl⟩
              case measure => simp [intOf]; omega
            · have hpx' : ¬ ((pos S (m + 1) : Nat) : Int) ≤ x := by omega
              obtain ⟨t1, t2, t3⟩ := torn_told hS (cut := x) (m := m) (i := i) (by rw [HSl.out]; exact hmj) hpm (.inr (by omega)) hgo hend
              subst t1
              have hPm : P = pos S i := HP.out.trans t2
              subst hPm
              have hmc : (i : Int) ≤ c7 := by have := F7.le; omega
              go_wp2_with fail
              refine (SameFrames_true FG (F7.front hmj) ?_ (fun f hf => by have := told_le HG.out f hf; rw [List.length_take] at this; omega) (by omega)).mono ?_
              · rw [HG.out, t3]
                have := HTO.out
                unfold told tells at *
                rw [List.map_take, List.map_take, this]
              rintro _ _ ⟨rfl, g9, rfl⟩
              go_wp2_with ((go_at_call 9; refine (known_any _).mono ?_; rintro _ _ ⟨rfl, g10, rfl⟩))
              go_ret
              exact Ret.mk_of (g10.up (g9.up b2)) (by simp)
          · have hlm' : ¬ (m : Int) < j := by omega
            obtain rfl : m = j := by omega
            obtain ⟨t1, t2, t3⟩ := torn_told hS (cut := x) (m := m) (i := i) (by rw [HSl.out]; exact hmj) hpm (.inl HSl.out.symm) hgo hend
            subst t1
            have hPm : P = pos S i := HP.out.trans t2
            subst hPm
            have hmc : (i : Int) ≤ c7 := by have := F7.le; omega
            go_wp2_with fail
            refine (SameFrames_true FG (F7.front hmj) ?_ (fun f hf => by have := told_le HG.out f hf; rw [List.length_take] at this; omega) (by omega)).mono ?_
            · rw [HG.out, t3]
              have := HTO.out
              unfold told tells at *
              rw [List.map_take, List.map_take, this]
            rintro _ _ ⟨rfl, g9, rfl⟩
            go_wp2_with ((go_at_call 9; refine (known_any _).mono ?_; rintro _ _ ⟨rfl, g10, rfl⟩))
            go_ret
            exact Ret.mk_of (g10.up (g9.up b2)) (by simp)
end Go.Proofs.Ytjmhnflogbihdaa
