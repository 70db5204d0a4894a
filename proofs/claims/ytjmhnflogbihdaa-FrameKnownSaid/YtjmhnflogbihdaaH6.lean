/- What is proved: the walk of FrameGets of layer 4. No condition. -/
import Derived.Test.YtjmhnflogbihdaaH5
namespace Go.Proofs.Ytjmhnflogbihdaa
open Go.RowKit

theorem getB_le (l : List Nat) : (getB l).length ≤ l.length := by
  unfold getB
  split
  · rw [List.length_take, List.length_drop]; omega
  · simp
theorem stF_le (l : List Nat) (i : Nat) : ∀ p ∈ stF l i, p.2.length ≤ l.length := by
  induction i with
  | zero => intro p hp; simp [stF] at hp
  | succ i ih =>
    intro p hp
    simp only [stF, List.mem_append, List.mem_singleton] at hp
    rcases hp with hp | rfl
    · exact ih p hp
    · have := getB_le (l.drop (stP l i))
      rw [List.length_drop] at this
      exact Nat.le_trans this (Nat.sub_le _ _)
theorem told_le {L : List Fm} {l : List Nat} {i : Nat} (h : told L = stF l i) : ∀ f ∈ L, f.body.length ≤ l.length := fun f hf =>
  stF_le l i (f.kind, f.body) (by rw [← h]; exact List.mem_map_of_mem hf)

theorem Frames.grownBy {w w' : World} {B : Nat} {v : Value} {L : List Fm} {r : Option Nat} (h : Frames w B v L) (hgr : w.grownBy w' r) (hr : ∀ k, r = some k → k < B) : Frames w' B v L := by
  have ne : ∀ x : Value, (∀ k, x.ownBlock = some k → B ≤ k) → x.ownBlock = none ∨ x.ownBlock ≠ r := fun x hx => by
    cases e : x.ownBlock with
    | none => exact .inl rfl
    | some k => exact .inr fun e2 => by have h1 := hr k e2.symm; have h2 := hx k e; omega
  exact ⟨h.row.kept hgr (ne _ fun k hk => (h.row.lt k hk).1), fun f hf => (h.body f hf).kept hgr (ne _ fun k hk => ((h.body f hf).lt k hk).1), h.apart⟩

set_option maxHeartbeats 4000000 in
theorem FrameGets_walk {w : World} {ao : Option Addr} {n c : Nat} {l : List Nat} (hl : Sl w ao n c (bts l)) (hs : Small l) (hmax : n ≤ 9223372036854775807) : Calls Try.prog 6 #[.slice ao n c] w (Ret (.bool true) w) := by
  have hln : l.length = n := by rw [← hl.len, bts_length]
  by_cases hbig : 4096 < n
  · have hbig' : (4096 : Int) < n := by omega
    go_enter Try.func6, Try.ntmps6
    go_wp2_with ((go_at_call 9; refine (known_any _).mono ?_; rintro _ _ ⟨rfl, g, rfl⟩))
    go_ret
    (refine Ret.mk ?_; (repeat' (first | (with_reducible exact Below.refl _ _) | (with_reducible assumption) | (with_reducible refine Ext.up _ ?_) | (with_reducible refine Below.alloc ?_ ?_ _) | (with_reducible refine Below.drew ?_) | (with_reducible refine Below.setCell ?_ ?_ _) | (with_reducible refine Below.setRow_ ?_ ?_ _) | go_size)))
  · have hbig' : ¬ (4096 : Int) < n := by omega
    have hB1 := getB_le l
    go_enter Try.func6, Try.ntmps6
    go_wp2_with fail
    refine (LentBytes_any hl (by omega)).mono ?_
    rintro _ w1 ⟨ai, ci, rfl, hb1, hown1⟩
    have l1 := hl.keep (Nat.le_refl _) hb1
    have z1 := hb1.size
    have i1 := Sl.own hown1
    have hci := i1.le
    have hci' : (n : Int) ≤ ci := by omega
    have p1 := i1.frontB (n' := n) (cap' := ci) (q := l) (by omega) (by omega) (by omega) (by rw [← hln]; simp)
    go_wp2_with fail
    refine (Get_any p1 hs (by omega)).mono ?_
    rintro _ w2 ⟨a2, c2, rfl, hb2, hown2⟩
    have b2 := (hb1.trans (hb2.mono z1)).alloc (Nat.le_trans z1 hb2.size) (.cells #[.int .i64 (getK l), .slice a2 (getB l).length c2] 33)
    have e2 := hb2.trans ((below1 w2 (.cells #[.int .i64 (getK l), .slice a2 (getB l).length c2] 33)).mono hb2.size)
    have l2 := l1.keep (Nat.le_refl _) e2
    have p2 := p1.keep (Nat.le_refl _) e2
    have i2 := i1.keep (Nat.le_refl _) e2
    have f2 := own_keep hown2 (Nat.le_refl _) (below1 w2 (.cells #[.int .i64 (getK l), .slice a2 (getB l).length c2] 33))
    have z2 := hb2.size
    have z2' := b2.size
    have r2 : (w2.alloc (.cells #[.int .i64 (getK l), .slice a2 (getB l).length c2] 33)).cell? ⟨w2.heap.size, 0, none⟩ = some (.int .i64 (getK l)) := by go_simp
    have s2 : (w2.alloc (.cells #[.int .i64 (getK l), .slice a2 (getB l).length c2] 33)).cell? ⟨w2.heap.size, 1, none⟩ = some (.slice a2 (getB l).length c2) := by go_simp
    have t2 : w2.heap.size < (w2.alloc (.cells #[.int .i64 (getK l), .slice a2 (getB l).length c2] 33)).heap.size := by simp
    go_wp2_with fail
    generalize hv2 : w2.alloc (.cells #[.int .i64 (getK l), .slice a2 (getB l).length c2] 33) = v2 at *
    clear hv2
    refine (RefGet_any l2 hs (by omega)).mono ?_
    rintro _ w3 ⟨a3, c3, rfl, hb3, hown3⟩
    have l3 := l2.keep (Nat.le_refl _) hb3
    have p3 := p2.keep (Nat.le_refl _) hb3
    have i3 := i2.keep (Nat.le_refl _) hb3
    have f3 := own_keep f2 (Nat.le_refl _) hb3
    have r3 := (hb3.cell (p := ⟨w2.heap.size, 0, none⟩) t2).trans r2
    have s3 := (hb3.cell (p := ⟨w2.heap.size, 1, none⟩) t2).trans s2
    have b3 := b2.trans (hb3.mono z2')
    have z3 := hb3.size
    have y3 := below1 w3 (.cells #[.int .i64 (getK l), .slice a3 (getB l).length c3] 33)
    have l4 := l3.keep (Nat.le_refl _) y3
    have p4 := p3.keep (Nat.le_refl _) y3
    have i4 := i3.keep (Nat.le_refl _) y3
    have f4 := own_keep f3 (Nat.le_refl _) y3
    have g4 := own_keep hown3 (Nat.le_refl _) y3
    have t3 : w2.heap.size < w3.heap.size := Nat.lt_of_lt_of_le t2 z3
    have r4 := (y3.cell (p := ⟨w2.heap.size, 0, none⟩) t3).trans r3
    have s4 := (y3.cell (p := ⟨w2.heap.size, 1, none⟩) t3).trans s3
    have b4 := b3.alloc (Nat.le_trans z2' z3) (.cells #[.int .i64 (getK l), .slice a3 (getB l).length c3] 33)
    have z4 := b4.size
    have x4 : (w3.alloc (.cells #[.int .i64 (getK l), .slice a3 (getB l).length c3] 33)).cell? ⟨w3.heap.size, 0, none⟩ = some (.int .i64 (getK l)) := by go_simp
    have q4 : (w3.alloc (.cells #[.int .i64 (getK l), .slice a3 (getB l).length c3] 33)).cell? ⟨w3.heap.size, 1, none⟩ = some (.slice a3 (getB l).length c3) := by go_simp
    have t4 : w3.heap.size < (w3.alloc (.cells #[.int .i64 (getK l), .slice a3 (getB l).length c3] 33)).heap.size := by simp
    have d4 := (e2.trans (hb3.mono (Nat.le_trans z2 (Nat.le_of_lt t2)))).alloc (Nat.le_trans (Nat.le_trans z2 (Nat.le_of_lt t2)) z3) (.cells #[.int .i64 (getK l), .slice a3 (getB l).length c3] 33)
    have hfk : ∀ k, (Value.slice a2 (getB l).length c2).ownBlock = some k → w1.heap.size ≤ k ∧ k < w3.heap.size := fun k hk => (f3.lt k hk)
    clear r2 s2 r3 s3 l2 l3 p1 p2 p3 i2 i3 f2 f3
    go_wp2_with fail
    generalize hv4 : w3.alloc (.cells #[.int .i64 (getK l), .slice a3 (getB l).length c3] 33) = v4 at *
    clear hv4
    refine (Scan_any p4 hs (by omega)).mono ?_
    rintro _ w5 ⟨i, L, vL, hgo, hend, htold, rfl, hb5, hF5⟩
    have hLi : L.length = i := by have := congrArg List.length htold; simpa [told, stF_length] using this
    have hge := goes_ge (l := l) i
    have hgl := goes_le hgo
    obtain ⟨av, cv, rfl⟩ := own_form hF5.row
    have l5 := l4.keep (Nat.le_refl _) hb5
    have i5 := i4.keep (Nat.le_refl _) hb5
    have f5 := own_keep f4 (Nat.le_refl _) hb5
    have g5 := own_keep g4 (Nat.le_refl _) hb5
    have t5 : w2.heap.size < v4.heap.size := Nat.lt_trans t3 t4
    have r5 := (hb5.cell (p := ⟨w2.heap.size, 0, none⟩) t5).trans r4
    have s5 := (hb5.cell (p := ⟨w2.heap.size, 1, none⟩) t5).trans s4
    have x5 := (hb5.cell (p := ⟨w3.heap.size, 0, none⟩) t4).trans x4
    have q5 := (hb5.cell (p := ⟨w3.heap.size, 1, none⟩) t4).trans q4
    have b5 := b4.trans (hb5.mono z4)
    have z5 := hb5.size
    have d5 := d4.trans (hb5.mono d4.size)
    clear l4 p4 i4 f4 g4 r4 s4 x4 q4
    go_wp2_with fail
    refine (RefScan_any l5 hs (by omega)).mono ?_
    rintro _ w6 ⟨j, K, vK, hgo', hend', htold', rfl, hb6, hF6⟩
    obtain rfl : i = j := goes_end hgo hgo' hend hend'
    have hKi : K.length = i := by have := congrArg List.length htold'; simpa [told, stF_length] using this
    obtain ⟨bv, dv, rfl⟩ := own_form hF6.row
    have l6 := l5.keep (Nat.le_refl _) hb6
    have i6 := i5.keep (Nat.le_refl _) hb6
    have f6 := own_keep f5 (Nat.le_refl _) hb6
    have g6 := own_keep g5 (Nat.le_refl _) hb6
    have hF6' := hF5.keep (Nat.le_refl _) hb6
    have t6 : w2.heap.size < w5.heap.size := Nat.lt_of_lt_of_le t5 z5
    have t6' : w3.heap.size < w5.heap.size := Nat.lt_of_lt_of_le t4 z5
    have r6 := (hb6.cell (p := ⟨w2.heap.size, 0, none⟩) t6).trans r5
    have s6 := (hb6.cell (p := ⟨w2.heap.size, 1, none⟩) t6).trans s5
    have x6 := (hb6.cell (p := ⟨w3.heap.size, 0, none⟩) t6').trans x5
    have q6 := (hb6.cell (p := ⟨w3.heap.size, 1, none⟩) t6').trans q5
    have b6 := b5.trans (hb6.mono (Nat.le_trans z4 z5))
    have z6 := hb6.size
    have d6 := d5.trans (hb6.mono d5.size)
    clear l5 i5 f5 g5 r5 s5 x5 q5
    rw [hKi] at hF6
    rw [hLi] at hF6'
    have fr1 := hF6'.reads hLi
    have fr2 := hF6.reads hKi
    have HF : Hid (Frames w6 v4.heap.size (.slice av i cv) L) := hF6'
    have HT : Hid (told L = told K) := htold.trans htold'.symm
    have HL : Hid (L.length = i) := hLi
    have hsm : ∀ f ∈ L, f.body.length < 549755813888 := fun f hf => by have := told_le htold f hf; omega
    have HSM : Hid (∀ f ∈ L, f.body.length < 549755813888) := hsm
    have hi1 : i < 549755813888 := by omega
    rw [hKi]
    clear hgo hgo' hend hend' htold htold' hLi hKi hF5 hF6 hF6' hsm
    go_wp2_with fail
    refine (SameBytes_same (Sl.own f6) (Sl.own g6) rfl (by omega)).mono ?_
    rintro _ _ ⟨rfl, g7, rfl⟩
    go_wp2_with fail
    refine (SameFrames_true (fr1.ext g7) (fr2.ext g7) HT.out (fun f hf => by have := HSM.out f hf; omega) (by omega)).mono ?_
    rintro _ _ ⟨rfl, g8, rfl⟩
    have s8 : g8.val.cell? ⟨w2.heap.size, 1, none⟩ = some (.slice a2 (getB l).length c2) := ((g7.trans g8).cell w2.heap.size 1 (Nat.lt_of_lt_of_le t6 z6)).trans s6
    have f8 := own_ext (own_ext f6 g7) g8
    have d8 := g8.up (g7.up d6)
    have b8 := g8.up (g7.up b6)
    have F8 : Hid (Frames g8.val v4.heap.size (.slice av i cv) L) := (HF.out.keep (Nat.le_refl _) g7.below).keep (Nat.le_refl _) g8.below
    clear fr1 fr2 r6 s6 x6 q6 f6 g6 i6 l6 hown1 hown2 hown3
    have zd8 := d8.size
    have z18 : w1.heap.size ≤ v4.heap.size := d4.size
    have t4' : w3.heap.size ≤ v4.heap.size := Nat.le_of_lt t4
    go_wp2_with fail
    refine (SpoilBytes_own ⟨_, f8⟩ (by omega)).mono ?_
    rintro _ w9 ⟨rfl, hgr, hall⟩
    have d9 := d8.grown hgr zd8 (fun k hk => (hfk k hk).1)
    have b9 := b8.grown hgr (Nat.le_trans z1 zd8) (fun k hk => Nat.le_trans z1 (hfk k hk).1)
    have F9 := F8.out.grownBy hgr (fun k hk => Nat.lt_of_lt_of_le (hfk k hk).2 t4')
    clear hall hgr F8 HF f8 s8
    go_wp2_with fail
    refine (SpoilFramesDeep_own F9 HL.out HSM.out hi1).mono ?_
    rintro _ w10 ⟨rfl, hb10⟩
    have d10 := d9.trans (hb10.mono z18)
    have b10 := b9.trans (hb10.mono z4)
    have l10 := l1.keep (Nat.le_refl _) d10
    have i10 := i1.keep (Nat.le_refl _) d10
    clear F9
    go_wp2_with fail
    refine (KeptBytes_true i10 l10 (by omega)).mono ?_
    rintro _ _ ⟨rfl, g11, rfl⟩
    go_wp2_with ((go_at_call 9; refine (known_any _).mono ?_; rintro _ _ ⟨rfl, g12, rfl⟩))
    go_ret
    exact Ret.mk_of (g12.up (g11.up b10)) (by simp)
end Go.Proofs.Ytjmhnflogbihdaa
