/- What is proved: mangrovekit's CopyFrames, SameFrames. No condition but those each law names. -/
import Derived.Test.YtaigdbnfhehclaaK6
namespace Go.Proofs.Ytaigdbnfhehclaa
open Go.RowKit
open Sx (Ab DW Turns Did Foot)
set_option maxRecDepth 100000

theorem told_get2 {L : List Fm} {i : Nat} {f : Fm} (h : L[i]? = some f) : (told L).take (i + 1) = (told L).take i ++ [(f.kind, f.body)] := by rw [List.take_add_one, told_get h]; rfl
set_option maxHeartbeats 2000000 in
theorem SameFrames_any {w : World} {ao bo : Option Addr} {n m c d : Nat} {L K : List Fm} (hL : FrR w ao n c L) (hK : FrR w bo m d K) (hs : ∀ f ∈ L, f.body.length < 1099511627776) (hs' : ∀ f ∈ K, f.body.length < 1099511627776) (hmax : n < 1099511627776) :
    Calls Try.prog 18 #[.slice ao n c, .slice bo m d] w (Ret (.bool (decide (told L = told K))) w) := by
  have hl1 : (told L).length = n := by have := hL.len; simpa [told] using this
  have hl2 : (told K).length = m := by have := hK.len; simpa [told] using this
  by_cases hnm : n = m
  · subst hnm
    go_enter Try.func18, Try.ntmps18
    go_wp2
    go_loopw [5] (fun i wr => ∃ j : Nat, j ≤ n ∧ i = .int .i64 j ∧ Below w.heap.size w wr ∧ (told L).take j = (told K).take j) (fun i _ => n - (intOf i).toNat)
    case atStart => exact ⟨0, by omega, rfl, Below.refl _ _, rfl⟩
    case round =>
      obtain ⟨j, hj, rfl, hb, ht⟩ := hrel
      by_cases hlt : j < n
      · have hlt' : (j : Int) < n := by omega
        obtain ⟨f, hf⟩ : ∃ f, L[j]? = some f := ⟨_, List.getElem?_eq_getElem (by rw [hL.len]; exact hlt)⟩
        obtain ⟨f', hf'⟩ : ∃ f, K[j]? = some f := ⟨_, List.getElem?_eq_getElem (by rw [hK.len]; exact hlt)⟩
        obtain ⟨b, o, rfl, q1, q2, q3⟩ := (hL.keep (Nat.le_refl _) hb).each j f hf
        obtain ⟨b', o', rfl, q1', q2', q3'⟩ := (hK.keep (Nat.le_refl _) hb).each j f' hf'
        have t1 := told_get hf
        have t2 := told_get hf'
        have HT1 := Lib.hid (told_get2 hf)
        have HT2 := Lib.hid (told_get2 hf')
        have e1 := ext_cell q1
        have e2 := ext_cell q2
        have e1' := ext_cell q1'
        have e2' := ext_cell q2'
        unfold Fm.val at e2 e2'
        have hcall := fun g : Ext wr => SameBytes_any (q3.ext g) (q3'.ext g) (hs f (List.mem_of_getElem? hf)) (hs' f' (List.mem_of_getElem? hf'))
        have HT := Lib.hid ht
        by_cases hk : f.kind = f'.kind
        · cases hbb : decide (f.body = f'.body) with
          | true =>
            rw [hbb] at hcall
            have hbe := Lib.hid (of_decide_eq_true hbb)
            rw [← hk] at e1'
            have HK := Lib.hid hk
            clear ht hf hf' q1 q2 q3 q1' q2' q3' t1 t2 hk hbb
            go_wp2
            (refine wp_region_grow (by kernel_rfl) (by kernel_rfl) ?_; (repeat (go_big_quiet_step ((first | (go_at_call 41; exact Calls.ext_of (hcall _)))))); refine wpQuiet_nil ?_; rintro _ ⟨g, rfl⟩)
            go_wp2
            go_roundw
            case rel => exact ⟨j + 1, by omega, rfl, g.up hb, by rw [HT1.out, HT2.out, HT.out, HK.out, hbe.out]⟩
            case measure => simp [intOf]; omega
          | false =>
            rw [hbb] at hcall
            have hne : told L ≠ told K := fun e => by
              rw [e, t2] at t1
              simp only [Option.some.injEq, Prod.mk.injEq] at t1
              exact of_decide_eq_false hbb t1.2.symm
            have HNE := Lib.hid (decide_eq_false hne)
            rw [← hk] at e1'
            clear ht hf hf' q1 q2 q3 q1' q2' q3' t1 t2 hk hbb hne
            go_wp2
            (refine wp_region_grow (by kernel_rfl) (by kernel_rfl) ?_; (repeat (go_big_quiet_step ((first | (go_at_call 41; exact Calls.ext_of (hcall _)))))); refine wpQuiet_nil ?_; rintro _ ⟨g, rfl⟩)
            go_wp2
            go_ret
            exact Ret.mk_of (g.up hb) (by rw [HNE.out]; rfl)
        · have hk2 : (f.kind == f'.kind) = false := by rw [beq_eq_false_iff_ne]; exact hk
          have hne : told L ≠ told K := fun e => by
            rw [e, t2] at t1
            simp only [Option.some.injEq, Prod.mk.injEq] at t1
            exact hk t1.1.symm
          have HNE := Lib.hid (decide_eq_false hne)
          clear ht hf hf' q1 q2 q3 q1' q2' q3' t1 t2 hne hk
          go_wp2
          (refine wp_region_grow (by kernel_rfl) (by kernel_rfl) ?_; (repeat (go_big_quiet_step ((first | (go_at_call 41; exact Calls.ext_of (hcall _)))))); refine wpQuiet_nil ?_; rintro _ ⟨g, rfl⟩)
          go_wp2
          go_ret
          exact Ret.mk_of (g.up hb) (by rw [HNE.out]; rfl)
      · obtain rfl : j = n := by omega
        have heq : told L = told K := by
          have e1 : (told L).take j = told L := by rw [← hl1, List.take_length]
          have e2 : (told K).take j = told K := by rw [← hl2, List.take_length]
          rw [← e1, ← e2, ht]
        have HE := Lib.hid (decide_eq_true heq)
        have hlt' : ¬ (j : Int) < j := by omega
        clear ht heq
        go_wp2
        go_ret
        exact Ret.mk_of hb (by rw [HE.out]; rfl)
  · have hne : told L ≠ told K := fun e => hnm (by rw [← hl1, ← hl2, e])
    have HNE := Lib.hid (decide_eq_false hne)
    have hnm2 : ((n : Int) == (m : Int)) = false := by rw [beq_eq_false_iff_ne]; omega
    clear hne
    go_enter Try.func18, Try.ntmps18
    go_wp2
    go_ret
    exact Ret.mk_of (Below.refl _ _) (by rw [HNE.out]; rfl)
set_option maxHeartbeats 4000000 in
theorem CopyFrames_any {w : World} {ao : Option Addr} {n c : Nat} {L : List Fm} (hL : FrR w ao n c L) (hs : ∀ f ∈ L, f.body.length < 1099511627776) (hmax : n ≤ 100000) :
    Calls Try.prog 22 #[.slice ao n c] w fun e w' => ∃ v L', e = .returned v ∧ Below w.heap.size w w' ∧ Frames w' w.heap.size v L' ∧ told L' = told L := by
  have hl1 : (told L).length = n := by have := hL.len; simpa [told] using this
  go_enter Try.func22, Try.ntmps22
  go_wp2
  go_loopw [3, 4] (fun v3 v4 wr => ∃ (i : Nat) (L1 : List Fm), i ≤ n ∧ v4 = .int .i64 i ∧ Below w.heap.size w wr ∧ Frames wr w.heap.size v3 L1 ∧ told L1 = (told L).take i ∧ L1.length = i) (fun _ v4 _ => n - (intOf v4).toNat)
  case atStart => exact ⟨0, [], Nat.zero_le _, rfl, Below.refl _ _, Frames.nil _ _, rfl, rfl⟩
  case round =>
    obtain ⟨i, L1, hi, rfl, hb, hfr, htd, hll⟩ := hrel
    obtain ⟨af, cf, rfl⟩ := own_form hfr.row
    have HLL := Lib.hid hll
    clear hll
    have hz := hb.size
    by_cases hlt : i < n
    · have hlt' : (i : Int) < n := by omega
      obtain ⟨f, hf⟩ : ∃ f, L[i]? = some f := ⟨_, List.getElem?_eq_getElem (by rw [hL.len]; exact hlt)⟩
      obtain ⟨b, o, rfl, q1, q2, q3⟩ := (hL.keep (Nat.le_refl _) hb).each i f hf
      unfold Fm.val at q2
      have HTG := Lib.hid (told_get2 hf)
      have HTD := Lib.hid htd
      have HQ3 := Lib.hid q3
      have hsf := hs f (List.mem_of_getElem? hf)
      have HB := Lib.hid hb
      have HFR := Lib.hid hfr
      have hblt := World.block_lt_of_cell? wr ⟨b, o + i * 2, none⟩ q1
      have hbw : b < w.heap.size := by
        obtain ⟨b2, o2, e2, p1, _⟩ := hL.each i f hf
        cases e2
        exact World.block_lt_of_cell? w ⟨b, o + i * 2, none⟩ p1
      clear hf htd q3 hb hfr
      go_wp2_with fail
      go_region_held3 (fun w' => w'.cell? ⟨b, o + i * 2, none⟩ = some (.int .i64 f.kind) ∧ w'.cell? ⟨b, o + i * 2 + 1, none⟩ = some (.slice f.ao f.body.length f.cap)) (first | exact ⟨q1, q2⟩ | exact ⟨d1, d2⟩ | exact ⟨g1, g2⟩ | exact ⟨k1, k2⟩)
        (first
          | (go_at_call 42; refine (CopyBytes_any (HQ3.out.keep (Nat.le_refl _) ((Below.refl wr.heap.size wr).drew)) hsf).mono ?_; rintro _ w1 ⟨a1, c1, rfl, hb1, hown1⟩; have hb1' := Lib.hid ((((Below.refl wr.heap.size wr).drew).trans hb1)); have d1 : w1.cell? ⟨b, o + i * 2, none⟩ = some (.int .i64 f.kind) := (hb1'.out.cell (p := ⟨b, o + i * 2, none⟩) hblt).trans q1; have d2 : w1.cell? ⟨b, o + i * 2 + 1, none⟩ = some (.slice f.ao f.body.length f.cap) := (hb1'.out.cell (p := ⟨b, o + i * 2 + 1, none⟩) hblt).trans q2; have hb2 := Lib.hid (hb1'.out.trans ((below1 w1 (.cells #[.int .i64 f.kind, .slice a1 f.body.length c1] 51)).mono hb1'.out.size)); have g1 : (w1.alloc (.cells #[.int .i64 f.kind, .slice a1 f.body.length c1] 51)).cell? ⟨b, o + i * 2, none⟩ = some (.int .i64 f.kind) := (hb2.out.cell (p := ⟨b, o + i * 2, none⟩) hblt).trans q1; have g2 : (w1.alloc (.cells #[.int .i64 f.kind, .slice a1 f.body.length c1] 51)).cell? ⟨b, o + i * 2 + 1, none⟩ = some (.slice f.ao f.body.length f.cap) := (hb2.out.cell (p := ⟨b, o + i * 2 + 1, none⟩) hblt).trans q2; have O2 := Lib.hid (own_keep hown1 (Nat.le_refl _) (below1 w1 (.cells #[.int .i64 f.kind, .slice a1 f.body.length c1] 51))); have FR2 := Lib.hid (HFR.out.keep (Nat.le_refl _) hb2.out); have hz2 := Nat.le_trans hz hb2.out.size; clear hb1 hown1)
          | (refine step_app_at elemF rfl _ _ rfl (B := w.heap.size) (n := L1.length) (xs := fcells L1) rfl FR2.out.row rfl (news := (Fm.mk f.kind f.body a1 c1).cells) rfl (fun y z hz => (by have := World.news_of_block (heap_alloc_new w1 (.cells #[.int .i64 f.kind, .slice a1 f.body.length c1] 51)) y z hz; exact this)) (fun u hu => (by simp only [Fm.cells, List.mem_cons, List.not_mem_nil, or_false] at hu; rcases hu with rfl | rfl <;> rfl)) (by decide) (by have := HLL.out; omega) hz2 ?_; intro g5 cap5 w5 hown5 hgr5 hat5 hlt5; have hk5 := hgr5.block b (Nat.lt_of_lt_of_le hblt hb2.out.size) (fun e => Nat.not_le.2 hbw (own_block HFR.out.row b e.symm)); have k1 : w5.cell? ⟨b, o + i * 2, none⟩ = some (.int .i64 f.kind) := ((Sx.cell_block hk5 _).1).trans g1; have k2 : w5.cell? ⟨b, o + i * 2 + 1, none⟩ = some (.slice f.ao f.body.length f.cap) := ((Sx.cell_block hk5 _).1).trans g2))
      have hF5 : Frames w5 w.heap.size (.slice (some ⟨g5, 0, none⟩) (L1.length + 1) cap5) (L1 ++ [⟨f.kind, f.body, a1, c1⟩]) :=
        FR2.out.grown (own_base O2.out (Nat.le_trans hz (by simp))) (fun k hk e => by
          have t1 := (O2.out.lt k hk).1
          have t2 := (HFR.out.row.lt k e).2
          have t3 : wr.heap.size ≤ k := t1
          omega) hown5 hgr5 hat5
      have htd5 : told (L1 ++ [⟨f.kind, f.body, a1, c1⟩]) = (told L).take (i + 1) := by rw [told_push, HTG.out, HTD.out]
      have hb5 : Below w.heap.size w w5 := (HB.out.trans (hb2.out.mono hz)).trans ((Below.refl _ _).grown hgr5 hz2 (own_block HFR.out.row))
      have F5 := Lib.hid hF5
      have TD5 := Lib.hid htd5
      clear hown5 hgr5 hat5 hF5 htd5 hk5 k1 k2 g1 g2 d1 d2
      go_wp2
      go_roundw
      case rel => exact ⟨i + 1, _, by omega, by go_num, hb5, F5.out, TD5.out, by rw [List.length_append, HLL.out]; rfl⟩
      case measure => simp [intOf]; omega
    · obtain rfl : i = n := by omega
      have hlt' : ¬ (i : Int) < i := by omega
      have htk : told L1 = told L := by rw [htd, ← hl1, List.take_length]
      have HT := Lib.hid htk
      have HFR := Lib.hid hfr
      clear htd htk hfr
      go_wp2
      go_ret
      exact ⟨_, rfl, hb, L1, HFR.out, HT.out⟩
end Go.Proofs.Ytaigdbnfhehclaa
