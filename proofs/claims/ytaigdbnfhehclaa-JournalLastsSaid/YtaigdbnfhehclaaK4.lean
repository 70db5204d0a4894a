/- What is proved: the law's known answers true. No condition but those each law names. -/
import Derived.Test.YtaigdbnfhehclaaQB
import Derived.Lib.SlBytesConst
namespace Go.Proofs.Ytaigdbnfhehclaa
open Go.RowKit
open Sx (Ab DW Turns Did Foot z128 padN CrashTo)
set_option maxRecDepth 100000

theorem Open_ok {w : World} {F : Foot} {dv : Value} {A A' : Ab} {j : Jr} {R : List (Int × List Nat)} (H : DW w F dv A) (hA : Ab.Sm A) (ho : openP A = ⟨0, A', j, R⟩) : Calls Try.prog 8 #[dv] w fun e w' => ∃ F' b ao c L,
    e = .returned (.tuple #[.pointer (some ⟨b, 0, none⟩), .slice ao R.length c, .int .i64 0]) ∧ JD w' F' dv A' b j ∧ TB F w F' w' ∧ w.heap.size ≤ b ∧ FrW w' (Fb F' b) w.heap.size (.slice ao R.length c) L ∧ told L = R := by
  refine (Open_any H hA).mono ?_
  rintro e w' ⟨F', ht, hr⟩
  rw [ho, if_neg (by simp)] at hr
  obtain ⟨b, v, L, rfl, h1, h2, h3, h4⟩ := hr
  obtain ⟨ao, c, hv⟩ := own_form h3.fr.row
  have hl : L.length = R.length := by have := congrArg List.length h4; simpa [told] using this
  rw [hl] at hv
  subst hv
  exact ⟨F', b, ao, c, L, rfl, h1, ht, h2, h3, h4⟩
theorem Open_bad {w : World} {F : Foot} {dv : Value} {A A' : Ab} {k : Int} (H : DW w F dv A) (hA : Ab.Sm A) (h0 : k ≠ 0) (h1 : (openP A).e = k) (h2 : (openP A).A = A') : Calls Try.prog 8 #[dv] w fun e w' =>
    e = .returned (.tuple #[.pointer none, .slice none 0 0, .int .i64 k]) ∧ ∃ F', DW w' F' dv A' ∧ TB F w F' w' := by
  refine (Open_any H hA).mono ?_
  rintro e w' ⟨F', ht, hr⟩
  rw [h1, h2, if_pos h0] at hr
  exact ⟨hr.2, F', hr.1, ht⟩
theorem Append_ok {w : World} {F : Foot} {dv : Value} {A : Ab} {b : Nat} {j : Jr} {R : List (Int × List Nat)} (h : JD w F dv A b j) (hH : Holds A j R) (hc : Calm A) {r : Int × List Nat} (hr : RowOk r) (hfit : (secL R).length + npc (rowF r) ≤ 255)
    {kind : Int} (hk : kind = r.1) {ao : Option Addr} {n c : Nat} (hl : Sl w ao n c (bts r.2)) (hap : Apart w F b ao) :
    Calls Try.prog 9 #[.pointer (some ⟨b, 0, none⟩), .int .i64 kind, .slice ao n c] w fun e w' => e = .returned (.int .i64 0) ∧ ∃ F' A' j', JD w' F' dv A' b j' ∧ Went F b w F' w' ∧ Holds A' j' (R ++ [r]) ∧ Calm A' ∧ j' = { j with at_ := j.at_ + npc (rowF r) } := by
  subst hk
  obtain ⟨h1, h2, h3, h4⟩ := hH.append hc hr hfit
  have hn : n ≤ 400 := by have := hl.len; rw [bts_length] at this; have := hr.2.2.1; omega
  refine (Append_any h hH.half.okJ r.1 hl hr.2.2.2 (by omega) hap).mono ?_
  rintro e w' ⟨rfl, F', q1, q2⟩
  rw [h1]
  exact ⟨rfl, F', _, _, q1, q2, h2, h3, h4⟩
theorem tb_below {F F' : Foot} {w w1 w2 : World} (hb : Below w.heap.size w w1) (h : TB F w1 F' w2) (hF : ∀ i x, F i x → w.heap.size ≤ i) : Below w.heap.size w w2 := by
  have hz := hb.size
  refine ⟨h.t.os.trans hb.os, h.t.tape.trans hb.tape, h.t.output.trans hb.output, Nat.le_trans hz h.t.size, fun k hk => ?_⟩
  exact (h.t.block k (by omega) fun x hx => absurd (hF k x hx) (by omega)).trans (hb.block k hk)
theorem holds_crash {A A' : Ab} {j : Jr} {R : List (Int × List Nat)} {keep : List Int} (h : Holds A j R) (hc : CrashTo A keep A') : Holds A' j R ∧ Calm A' := by
  have hsee : ∀ k, A'.see k = A.see k := fun k => by
    unfold Sx.Ab.see
    rw [hc.loose, h.still]
    rcases hc.last k with e | ⟨l, e, _⟩
    · exact e
    · rw [h.still] at e; cases e
  have hsm : Ab.Sm A' := fun k l hl => by
    rcases hl with hl | hl
    · rcases hc.last k with e | ⟨q, e, _⟩
      · exact h.half.sm k l (.inl (by rw [← e]; exact hl))
      · rw [h.still] at e; cases e
    · rw [hc.loose] at hl; cases hl
  refine ⟨⟨h.half.congr hsm (hsee _) (fun s _ _ => hsee s) (fun s q1 q2 => (hsee s).trans (h.rest s q1 q2)) (by rw [turnA_see (hsee _)]; exact h.half.other), hc.loose, fun s q1 q2 => (hsee s).trans (h.rest s q1 q2)⟩, ⟨hc.off, by rw [hc.left]; decide⟩⟩
def kr1 : Int × List Nat := (1, [97, 98])
def kr2 : Int × List Nat := (2, List.replicate 121 0)
theorem kr1_ok : RowOk kr1 := ⟨by decide, by decide, by decide, fun x hx => by simp [kr1] at hx; omega⟩
theorem kr2_ok : RowOk kr2 := ⟨by decide, by decide, by decide, zeros_small _⟩
theorem npc1 : npc (rowF kr1) = 1 := by unfold npc; rw [rowF_len]; decide
theorem npc2 : npc (rowF kr2) = 2 := by unfold npc; rw [rowF_len]; decide
theorem secL_len1 : (secL [kr1]).length = 1 := by rw [secL_one, secs_len, npc1]
theorem secL_len2 : (secL [kr1, kr2]).length = 3 := by rw [secL_cons, List.length_append, secL_one, secs_len, secs_len, npc1, npc2]
theorem make121 (w : World) : (Instr.makeSlice 32 (.int .i64 121) (.int .i64 121)).run Try.prog w = .ok (.slice (some ⟨w.heap.size, 0, none⟩) 121 121) (w.alloc (.cells (bts (List.replicate 121 0)).toArray 5)) := by
  obtain ⟨i, hi, h1, h2, h3⟩ := info_parts (show (Try.prog.info? 5).map (fun i => (i.zero, i.size, i.bytes)) = some (some (.int .u8 0), 1, 1) by kernel_rfl)
  have := run_make (P := Try.prog) w 32 5 i (.int .u8 0) Try.underlying32 hi h1 .i64 .i64 121 121 (by decide) (Int.le_refl _) (by rw [h3]; decide) (by decide)
  rw [h2] at this
  have hz : madeCells (Value.int .u8 0).cells ((121 : Int).toNat * 1) = (bts (List.replicate 121 0)).toArray := by kernel_rfl
  rw [hz] at this
  exact this
attribute [local go_sem high] make121
theorem conv32 (w : World) (cs : Array Value) (n c k : Nat) (hk : k = w.heap.size) : (convert 32 32 (.slice (some ⟨k, 0, none⟩) n c)).run Try.prog (w.alloc (.cells cs 5)) = .ok (.slice (some ⟨k, 0, none⟩) n c) (w.alloc (.cells cs 5 (cs.size, cs.size + 1))) := by
  subst hk
  exact Go.Lib.run_convert_bytes_const w 32 5 cs n c Try.underlying32 Try.underlying5
attribute [local go_sem] conv32
theorem apart_new {w : World} {F : Foot} {dv : Value} {A : Ab} {b : Nat} {j : Jr} (h : JD w F dv A b j) (o : Obj) : Apart (w.alloc o) F b (some ⟨w.heap.size, 0, none⟩) := fun k q e => by
  cases e
  have := h.lt
  exact ⟨by simp, by omega, fun x hx => absurd (h.dw.lt hx) (Nat.lt_irrefl _)⟩
set_option maxHeartbeats 4000000 in
theorem Known_any (w : World) : Calls Try.prog 11 #[] w (Ret (.bool true) w) := by
  go_enter Try.func11, Try.ntmps11
  go_wp2_with fail
  refine (Sx.new_w w).mono ?_
  rintro _ w1 ⟨db, dof, F1, rfl, d1, hb1, hF1⟩
  obtain ⟨A1, ho1, hh1, hc1, _⟩ := open_new (A := Sx.ab0) calm_ab0 sm_ab0 (turnA_z rfl) (turnA_z rfl) (fun k _ _ => rfl)
  have O1 := Lib.hid (Open_ok d1 sm_ab0 ho1)
  have HB1 := Lib.hid hb1
  have HF1 := Lib.hid hF1
  clear d1 hb1 hF1
  go_wp2_with fail
  refine O1.out.mono ?_
  rintro _ w2 ⟨F2, b, ao, c, L, rfl, j2, tb2, hb2, fr2, tl2⟩
  have T2 := Lib.hid tb2
  have hz2 := tb2.t.size
  have ja := j2.below (below1 w2 (.cells #[.int .u8 97, .int .u8 98] 5 (2, 3)))
  have P1 := Lib.hid (Append_ok ja hh1 hc1 kr1_ok (by show 0 + npc (rowF kr1) ≤ 255; rw [npc1]; decide) (kind := 1) rfl (sl_marked w2 #[.int .u8 97, .int .u8 98] 5 2 w2.heap.size (2, 3) rfl rfl) (apart_new j2 _))
  have W2 := Lib.hid (T2.out.below (below1 w2 (.cells #[.int .u8 97, .int .u8 98] 5 (2, 3))))
  clear O1 j2 tb2 fr2 tl2 ja
  go_wp2_with fail
  refine P1.out.mono ?_
  rintro _ w3 ⟨rfl, F3, A3, j3, d3, wt3, hh3, hc3, e3⟩
  have W3 := Lib.hid (W2.out.new wt3 hb2)
  have e3b : j3 = ⟨0, 2, 1, false⟩ := by rw [e3, npc1]; rfl
  subst e3b
  have jb := d3.below (below1 w3 (.cells (bts (List.replicate 121 0)).toArray 5))
  have P2 := Lib.hid (Append_ok jb hh3 hc3 kr2_ok (by show (secL [kr1]).length + npc (rowF kr2) ≤ 255; rw [npc2, secL_len1]; decide) (kind := 2) rfl (sl_marked w3 (bts (List.replicate 121 0)).toArray 5 121 w3.heap.size (0, 0) rfl rfl) (apart_new d3 _))
  have W4 := Lib.hid (W3.out.below (below1 w3 (.cells (bts (List.replicate 121 0)).toArray 5)))
  clear P1 d3 wt3 jb e3
  go_wp2_with fail
  refine P2.out.mono ?_
  rintro _ w4 ⟨rfl, F4, A4, j4, d4, wt4, hh4, hc4, e4⟩
  have e4b : j4 = ⟨0, 4, 1, false⟩ := by rw [e4, npc2]; rfl
  subst e4b
  have W5 := Lib.hid (W4.out.new wt4 hb2)
  have R := Lib.hid (show Calls Try.prog 19 #[.pointer (some ⟨b, 0, none⟩)] w4 (Ret (.int .i64 252) w4) from Room_any d4 (by decide) (by decide))
  have D4 := Lib.hid d4
  clear P2 d4 wt4 e4
  go_wp2_with fail
  refine R.out.mono ?_
  rintro _ _ ⟨rfl, g, rfl⟩
  have d5 := D4.out.below g.below
  have W6 := Lib.hid (W5.out.below g.below)
  have CR := Lib.hid (Sx.crash_w d5.dw (keep := []) (ao := none) (n := 0) (c := 0) (Sl.nothing _) Sx.off_nil)
  generalize g.val = w5 at *
  clear d5 R
  go_wp2_with fail
  refine CR.out.mono ?_
  rintro _ w6 ⟨A6, hcr, hd⟩
  obtain ⟨rfl, F6, d6, tb6⟩ := did_tb hd
  obtain ⟨hh6, hc6⟩ := holds_crash hh4 hcr
  have W7 := Lib.hid (W6.out.trans tb6)
  have O2 := Lib.hid (Open_ok d6 hh6.half.sm (hh6.opens hc6.on))
  clear CR hd hcr tb6 d6
  go_wp2_with fail
  refine O2.out.mono ?_
  rintro _ w7 ⟨F7, b7, ao7, c7, L7, rfl, j7, tb7, hb7, fr7, tl7⟩
  have W8 := Lib.hid (W7.out.trans tb7)
  obtain ⟨f0, f1, rfl, hk0, hl1⟩ : ∃ f0 f1, L7 = [f0, f1] ∧ f0.kind = 1 ∧ f1.body.length = 121 := by
    match L7, tl7 with
    | [f0, f1], h =>
      simp only [told, List.map_cons, List.map_nil, List.nil_append, List.singleton_append, List.cons.injEq, and_true] at h
      exact ⟨f0, f1, rfl, congrArg Prod.fst h.1, by have := congrArg (fun q => q.2.length) h.2; simpa [kr2] using this⟩
  obtain ⟨bb, oo, rfl, cA, _, _⟩ := (fr7.fr.reads rfl).each 0 f0 rfl
  obtain ⟨bb2, oo2, ee, _, cB, _⟩ := (fr7.fr.reads rfl).each 1 f1 rfl
  cases ee
  rw [hk0, Nat.zero_mul, Nat.add_zero] at cA
  unfold Fm.val at cB
  rw [hl1, Nat.one_mul, Nat.add_assoc] at cB
  have TU := Lib.hid (Turn_any j7)
  have J7 := Lib.hid j7
  clear O2 fr7 tl7 tb7 j7
  go_wp2_with fail
  refine TU.out.mono ?_
  rintro _ _ ⟨rfl, g8, rfl⟩
  have hB := Lib.hid ((tb_below HB1.out W8.out HF1.out).trans (g8.below.mono (tb_below HB1.out W8.out HF1.out).size))
  go_wp2
  go_ret
  exact Ret.mk_of hB.out rfl
end Go.Proofs.Ytaigdbnfhehclaa
