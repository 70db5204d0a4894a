/- What is proved: the walk of JournalFull. No condition but those each law names. -/
import Derived.Test.YtaigdbnfhehclaaKH
import Derived.Test.YtaigdbnfhehclaaQF
import Derived.Test.YtaigdbnfhehclaaK7
namespace Go.Proofs.Ytaigdbnfhehclaa
open Go.RowKit
open Sx (Ab DW Turns Did Foot z128 padN CrashTo)
set_option maxRecDepth 100000

theorem Append_full {w : World} {F : Foot} {dv : Value} {A : Ab} {b : Nat} {j : Jr} {R : List (Int × List Nat)} (h : JD w F dv A b j) (hH : Holds A j R) (hc : Calm A) {r : Int × List Nat} (hr : RowOk r) (hl : 255 < (secL R).length + npc (rowF r)) {ao : Option Addr} {n c : Nat} (hs : Sl w ao n c (bts r.2)) (hap : Apart w F b ao) :
    Calls Try.prog 9 #[.pointer (some ⟨b, 0, none⟩), .int .i64 r.1, .slice ao n c] w fun e w' => e = .returned (.int .i64 8) ∧ ∃ F', JD w' F' dv A b j ∧ Went F b w F' w' := by
  obtain ⟨h1, h2, h3⟩ := hH.full hc hr hl
  have hn : n ≤ 400 := by have := hs.len; rw [bts_length] at this; have := hr.2.2.1; omega
  refine (Append_any h hH.half.okJ r.1 hs hr.2.2.2 (by omega) hap).mono ?_
  rintro e w' ⟨rfl, F', q1, q2⟩
  rw [h2, h3] at q1
  rw [h1]
  exact ⟨rfl, F', q1, q2⟩
/-- Compact, where it refuses. -/
theorem Compact_not {w : World} {F : Foot} {dv : Value} {A : Ab} {b : Nat} {j : Jr} {R : List (Int × List Nat)} (h : JD w F dv A b j) (hH : Holds A j R) {ao : Option Addr} {n c : Nat} {L : List Fm} {k : Int} (hk : compE A j (told L) = k ∧ compA A j (told L) = A ∧ compJ A j (told L) = j)
    (hf : FrA w (Fb F b) ao n c L) (hfl : ∀ k o, ao = some ⟨k, o, none⟩ → k < w.heap.size) (hbl : ∀ f ∈ L, ∀ k o, f.ao = some ⟨k, o, none⟩ → k < w.heap.size) (hs : ∀ f ∈ L, Small f.body ∧ f.body.length < 1099511627776) (hn : n ≤ 100000) :
    Calls Try.prog 21 #[.pointer (some ⟨b, 0, none⟩), .slice ao n c] w fun e w' => e = .returned (.int .i64 k) ∧ ∃ F', JD w' F' dv A b j ∧ Went F b w F' w' := by
  have t := hH.half.t
  refine (Compact_any h hH.half.okJ (by omega) (by omega) hf hfl hbl hs hn).mono ?_
  rintro e w' ⟨rfl, F', q1, q2⟩
  rw [hk.2.1, hk.2.2] at q1
  rw [hk.1]
  exact ⟨rfl, F', q1, q2⟩
theorem Frames.low {w : World} {B B' : Nat} {v : Value} {L : List Fm} (h : Frames w B v L) (hB : B' ≤ B) : Frames w B' v L := ⟨own_base h.row hB, fun f hf => own_base (h.body f hf) hB, h.apart⟩
/-- A copy of the rows, and one of them behind it: too many. -/
theorem Compact_many {w0 w w' : World} {F : Foot} {dv : Value} {A : Ab} {b : Nat} {j : Jr} {B : Nat} {v : Value} {L6 : List Fm} {f : Fm} {g cap : Nat} (hB0 : w0.heap.size ≤ w.heap.size) (h : JD w F dv A b j) (hH : Holds A j (fks 255)) (hc : Calm A)
    (hF : ∀ k, w0.heap.size ≤ k → k ≠ b ∧ ∀ x, ¬ F k x) (hfr : Frames w w0.heap.size v L6) (ht : told L6 = fks 255) (hB : B ≤ w0.heap.size) (hf : w.ownsRow B 5 1 f.val f.body.length (bts f.body)) (hflt : ∀ k, f.val.ownBlock = some k → k < w0.heap.size ∧ ∀ x, ¬ Fb F b k x) (hfo : RowOk (f.kind, f.body))
    (hown : w'.ownsRow w0.heap.size 51 2 (.slice (some ⟨g, 0, none⟩) (L6.length + 1) cap) (L6.length + 1) (fcells L6 ++ f.cells)) (hgr : w.grownBy w' v.ownBlock) (hat : v.ownBlock = some g ∨ g = w.heap.size) :
    Calls Try.prog 21 #[.pointer (some ⟨b, 0, none⟩), .slice (some ⟨g, 0, none⟩) (L6.length + 1) cap] w' fun e w'' => e = .returned (.int .i64 8) ∧ ∃ F', JD w'' F' dv A b j ∧ Went F b w' F' w'' := by
  have hl : L6.length = 255 := by have := congrArg List.length ht; simpa [told, fks_len] using this
  have hfr2 : Frames w' B (.slice (some ⟨g, 0, none⟩) (L6.length + 1) cap) (L6 ++ [f]) := by
    refine (hfr.low hB).grown hf (fun k hk e => ?_) ?_ hgr hat
    · have t1 := (hflt k hk).1
      have t2 := (hfr.row.lt k e).1
      omega
    · exact own_base hown hB
  have hg0 : w0.heap.size ≤ g := (own_addr hown).1
  have hw : FrW w' (Fb F b) B (.slice (some ⟨g, 0, none⟩) (L6.length + 1) cap) (L6 ++ [f]) := by
    refine ⟨hfr2, fun k hk x hx => ?_, fun f' hf' k hk x hx => ?_⟩
    · obtain rfl : g = k := by simpa [Value.ownBlock] using hk
      exact hx.elim (fun h => (hF g hg0).2 x h) fun h => (hF g hg0).1 h
    · rcases List.mem_append.1 hf' with h1 | h1
      · have t1 := ((hfr.body f' h1).lt k hk).1
        exact hx.elim (fun h => (hF k t1).2 x h) fun h => (hF k t1).1 h
      · rw [List.mem_singleton] at h1
        subst h1
        exact (hflt k hk).2 x hx
  have hlen : (L6 ++ [f]).length = L6.length + 1 := by rw [List.length_append]; rfl
  obtain ⟨r1, r2, r3⟩ := hw.reads hlen
  have htd : told (L6 ++ [f]) = fks 255 ++ [(f.kind, f.body)] := by rw [told_push, ht]
  have hok : RowsOk (fks 255 ++ [(f.kind, f.body)]) := fun r hr => by
    rcases List.mem_append.1 hr with h1 | h1
    · exact fks_ok (Nat.le_refl _) r h1
    · rw [List.mem_singleton] at h1; rw [h1]; exact hfo
  obtain ⟨a1, a2⟩ := allP_ok hok
  have hal : 255 < (allP (fks 255 ++ [(f.kind, f.body)])).length := by
    have e1 := congrArg List.length a1
    rw [List.length_map, secL_append, List.length_append, secL_fks, secL_one, secs_len] at e1
    have := npc_pos (f.kind, f.body)
    omega
  have jd : JD w' F dv A b j := h.grown hgr fun k hk => hF k (hfr.row.lt k hk).1
  refine Compact_not jd hH (by rw [htd]; exact hH.many hc a2 hal) r1 r2 r3 (fun f' hf' => ?_) (by omega)
  have hm : (f'.kind, f'.body) ∈ fks 255 ++ [(f.kind, f.body)] := by rw [← htd]; exact List.mem_map_of_mem (f := fun f : Fm => (f.kind, f.body)) hf'
  have := hok _ hm
  exact ⟨this.2.2.2, by have := this.2.2.1; simp only at this; omega⟩
theorem FrW.apart {w w' : World} {F : Foot} {B M : Nat} {v : Value} {L : List Fm} {row : Option Nat} (h : FrW w F B v L) (hgr : w.grownBy w' row) (hrow : ∀ k, row = some k → M ≤ k) (hv : ∀ k, v.ownBlock = some k → k < M) (hb : ∀ f ∈ L, ∀ k, f.val.ownBlock = some k → k < M) : FrW w' F B v L :=
  ⟨h.fr.heap (fun k hk => hgr.block k (h.fr.row.lt k hk).2 fun e => absurd (hrow k e.symm) (by have := hv k hk; omega)) (fun f hf k hk => hgr.block k ((h.fr.body f hf).lt k hk).2 fun e => absurd (hrow k e.symm) (by have := hb f hf k hk; omega)), h.clear, h.bclear⟩
/-- One frame, as a literal. -/
theorem fr_lit {w : World} {F : Foot} {dv : Value} {A : Ab} {b : Nat} {j : Jr} (h : JD w F dv A b j) (f : Fm) (hb : Sl w f.ao f.body.length f.cap (bts f.body)) (hba : ∀ k o, f.ao = some ⟨k, o, none⟩ → k < w.heap.size ∧ ∀ x, ¬ Fb F b k x) :
    FrA (w.alloc (.cells #[.int .i64 f.kind, f.val] 51)) (Fb F b) (some ⟨w.heap.size, 0, none⟩) 1 1 [f] ∧ (∀ k o, some (⟨w.heap.size, 0, none⟩ : Addr) = some ⟨k, o, none⟩ → k < (w.alloc (.cells #[.int .i64 f.kind, f.val] 51)).heap.size) ∧
      ∀ f' ∈ [f], ∀ k o, f'.ao = some ⟨k, o, none⟩ → k < (w.alloc (.cells #[.int .i64 f.kind, f.val] 51)).heap.size := by
  have hlt := h.lt
  have hF : ∀ k, w.heap.size ≤ k → ∀ x, ¬ Fb F b k x := fun k hk x hx => hx.elim (fun h2 => absurd (h.dw.lt h2) (by omega)) fun h2 => by omega
  refine ⟨⟨⟨rfl, Nat.le_refl _, (fun e => by cases e), fun i f' hf => ?_⟩, fun k o e => ?_, fun f' hf k o e => ?_⟩, fun k o e => ?_, fun f' hf k o e => ?_⟩
  · match i, hf with
    | 0, hf =>
      cases hf
      exact ⟨w.heap.size, 0, rfl, new_cells w #[.int .i64 f.kind, f.val] 51 0 _ rfl, new_cells w #[.int .i64 f.kind, f.val] 51 1 _ rfl, hb.keep (Nat.le_refl _) (below1 _ _)⟩
  · cases e; exact hF _ (Nat.le_refl _)
  · rw [List.mem_singleton] at hf
    subst hf
    exact (hba k o e).2
  · cases e; simp
  · rw [List.mem_singleton] at hf
    subst hf
    have := (hba k o e).1
    simp only [World.size_alloc]
    omega
theorem FrA.tail {w : World} {F : Foot} {b o n c : Nat} {f : Fm} {L : List Fm} (h : FrA w F (some ⟨b, o, none⟩) n c (f :: L)) : FrA w F (some ⟨b, o + 2, none⟩) (n - 1) (c - 1) L := by
  have h1 := h.rd.len
  have h2 := h.rd.le
  rw [List.length_cons] at h1
  refine ⟨⟨by omega, by omega, (fun e => by cases e), fun i f' hf => ?_⟩, fun k q e x hx => ?_, fun f' hf => h.bclear f' (List.mem_cons_of_mem _ hf)⟩
  · obtain ⟨b2, o2, e, p1, p2, p3⟩ := h.rd.each (i + 1) f' (by simpa using hf)
    cases e
    refine ⟨b, o + 2, rfl, ?_, ?_, p3⟩
    · rw [show o + 2 + i * 2 = o + (i + 1) * 2 by omega]; exact p1
    · rw [show o + 2 + i * 2 + 1 = o + (i + 1) * 2 + 1 by omega]; exact p2
  · cases e
    exact h.clear b o rfl x hx
theorem FrR.front {w : World} {ao : Option Addr} {n c m : Nat} {L K : List Fm} (h : FrR w ao n c (L ++ K)) (hm : L.length = m) : FrR w ao m c L := by
  have h1 := h.len
  have h2 := h.le
  rw [List.length_append] at h1
  exact ⟨hm, by omega, h.nil, fun i f hf => h.each i f (by rw [List.getElem?_append_left (List.getElem?_eq_some_iff.1 hf).1]; exact hf)⟩
def lastR : Int × List Nat := (7, [108, 97, 115, 116])
theorem lastR_ok : RowOk lastR := ⟨by decide, by decide, by decide, fun x hx => by simp [lastR] at hx; omega⟩
theorem lastR_npc : npc (rowF lastR) = 1 := by unfold npc; rw [rowF_len]; rfl
/-- Behind a call that left the journal as it was: the rows are there too. -/
def Left (F1 : Foot) (w1 : World) (dv : Value) (A : Ab) (b : Nat) (j : Jr) (v : Value) (L : List Fm) (wx : World) : Prop := ∃ Fx, JD wx Fx dv A b j ∧ TB F1 w1 Fx wx ∧ FrW wx (Fb Fx b) w1.heap.size v L
attribute [local go_sem high] make401
attribute [local go_sem] conv32
set_option maxHeartbeats 8000000 in
theorem Full_any (w : World) : Calls Try.prog 5 #[] w (Ret (.bool true) w) := by
  go_enter Try.func5, Try.ntmps5
  go_wp2_with fail
  refine (Sx.new_w w).mono ?_
  rintro _ w1 ⟨db, dof, F1, rfl, d1, hb1, hF1⟩
  obtain ⟨A1, ho1, hh1, hc1, _⟩ := open_new (A := Sx.ab0) calm_ab0 sm_ab0 (turnA_z rfl) (turnA_z rfl) (fun k _ _ => rfl)
  have O1 := Lib.hid (Open_ok d1 sm_ab0 ho1)
  have HB1 := Lib.hid hb1
  have HF1 := Lib.hid hF1
  have HH1 := Lib.hid hh1
  have HC1 := Lib.hid hc1
  clear d1 hb1 hF1 hh1 hc1 ho1
  go_wp2_with fail
  refine O1.out.mono ?_
  rintro _ w2 ⟨F2, b, ao, c, L, rfl, j2, tb2, hb2, fr2, tl2⟩
  have T2 := Lib.hid tb2
  have RM := Lib.hid (show Calls Try.prog 19 #[.pointer (some ⟨b, 0, none⟩)] w2 (Ret (.int .i64 255) w2) from Room_any j2 (by decide) (by decide))
  have J2 := Lib.hid j2
  clear O1 j2 tb2 fr2 tl2
  go_wp2_with fail
  refine RM.out.mono ?_
  rintro _ _ ⟨rfl, g3, rfl⟩
  have j2 := Lib.hid (J2.out.below g3.below)
  have T2c := Lib.hid (T2.out.below g3.below)
  generalize g3.val = w3 at *
  clear RM J2 T2
  go_wp2_with fail
  go_loopw [5, 6] (fun v5 v6 wr => ∃ (i : Nat) (F : Foot) (A : Ab) (j : Jr) (L : List Fm), i ≤ 255 ∧ v6 = .int .i64 i ∧ JD wr F (.pointer (some ⟨db, dof, none⟩)) A b j ∧ Holds A j (fks i) ∧ Calm A ∧ TB F1 w1 F wr ∧ j = ⟨0, 1 + i, 1, false⟩ ∧ FrW wr (Fb F b) w1.heap.size v5 L ∧ told L = fks i) (fun _ v6 _ => 255 - (intOf v6).toNat)
  case atStart => exact ⟨0, F2, A1, newJ, [], Nat.zero_le _, rfl, j2.out, HH1.out, HC1.out, T2c.out, rfl, FrW.nil _ _ _, rfl⟩
  case round =>
    obtain ⟨i, F, A, j, L, hi, rfl, hj, hh, hc, ht, rfl, hfr, htd⟩ := hrel
    obtain ⟨af, cf, rfl⟩ := own_form hfr.fr.row
    have hll : L.length = i := by have := congrArg List.length htd; simpa [told, fks_len] using this
    have HLL := Lib.hid hll
    have HJ := Lib.hid hj
    have HHo := Lib.hid hh
    have HCa := Lib.hid hc
    have HT := Lib.hid ht
    have HFr := Lib.hid hfr
    have HTd := Lib.hid htd
    have hzr := ht.t.size
    clear hj hh hc ht hfr htd hll
    by_cases hlt : i < 255
    · have hlt2 : (i : Int) < 255 := by omega
      have em : (i : Int).tmod 254 = ((i % 254 : Nat) : Int) := by rw [Int.tmod_eq_emod_of_nonneg (by omega)]; omega
      have em2 : (i : Int) % 254 = ((i % 254 : Nat) : Int) := by omega
      have hm254 : i % 254 < 254 := Nat.mod_lt _ (by decide)
      have e2 : IntKind.u8.wrap (i : Int) = i := by rw [IntKind.wrap_u8]; omega
      have bb1 := below1 wr (.cells #[.int .u8 (i : Int)] 5)
      generalize hmm : i % 254 = mm at *
      have jb := (HJ.out.below bb1).below (below1 _ (.cells #[.int .i64 (1 + (mm : Int)), .slice (some ⟨wr.heap.size, 0, none⟩) 1 1] 51))
      have hsl : Sl (wr.alloc (.cells #[.int .u8 (i : Int)] 5)) (some ⟨wr.heap.size, 0, none⟩) 1 1 (bts [i]) := sl_marked wr #[.int .u8 (i : Int)] 5 1 wr.heap.size (0, 0) rfl rfl
      have hap : Apart ((wr.alloc (.cells #[.int .u8 (i : Int)] 5)).alloc (.cells #[.int .i64 (1 + (mm : Int)), .slice (some ⟨wr.heap.size, 0, none⟩) 1 1] 51)) F b (some ⟨wr.heap.size, 0, none⟩) := fun k o e => by
        obtain ⟨t1, t2, t3⟩ := apart_new HJ.out (.cells #[.int .u8 (i : Int)] 5) k o e
        exact ⟨Nat.lt_of_lt_of_le t1 (by simp), t2, t3⟩
      have P := Lib.hid (Append_ok jb HHo.out HCa.out (fk_ok (i := i) hlt) (by rw [secL_fks, fk_npc]; omega) (kind := 1 + (mm : Int)) (by unfold fk; rw [hmm]) (hsl.keep (Nat.le_refl _) (below1 _ _)) hap)
      have HMM := Lib.hid hmm
      clear jb hsl hap hmm bb1
      have hbl := HJ.out.lt
      have hfx : ∀ k, wr.heap.size ≤ k → k ≠ b ∧ ∀ x, ¬ F k x := fun k hk => ⟨by omega, fun x hx => absurd (HJ.out.dw.lt hx) (by omega)⟩
      have HFX := Lib.hid hfx
      clear hfx
      go_wp2_with fail
      have bb := (below1 wr (.cells #[.int .u8 (i : Int)] 5)).alloc (by simp) (.cells #[.int .i64 (1 + (mm : Int)), .slice (some ⟨wr.heap.size, 0, none⟩) 1 1] 51)
      have hsz : (wr.alloc (.cells #[.int .u8 (i : Int)] 5)).heap.size = wr.heap.size + 1 := by simp
      have hnb0 : ((wr.alloc (.cells #[.int .u8 (i : Int)] 5)).alloc (.cells #[.int .i64 (1 + (mm : Int)), .slice (some ⟨wr.heap.size, 0, none⟩) 1 1] 51)).heap[wr.heap.size + 1]? = some (.cells #[.int .i64 (1 + (mm : Int)), .slice (some ⟨wr.heap.size, 0, none⟩) 1 1] 51) := by
        have := heap_alloc_new (wr.alloc (.cells #[.int .u8 (i : Int)] 5)) (.cells #[.int .i64 (1 + (mm : Int)), .slice (some ⟨wr.heap.size, 0, none⟩) 1 1] 51)
        rwa [hsz] at this
      have hob : ((wr.alloc (.cells #[.int .u8 (i : Int)] 5)).alloc (.cells #[.int .i64 (1 + (mm : Int)), .slice (some ⟨wr.heap.size, 0, none⟩) 1 1] 51)).ownsRow wr.heap.size 5 1 (.slice (some ⟨wr.heap.size, 0, none⟩) 1 1) 1 (bts [i]) :=
        (own_new wr wr.heap.size 5 #[.int .u8 (i : Int)] (Nat.le_refl _) (show 1 ≤ maxLen by decide)).alloc _
      have fr0 := HFr.out.keep (Nat.le_refl _) bb
      have t0 := HT.out.below bb
      generalize hw0 : (wr.alloc (.cells #[.int .u8 (i : Int)] 5)).alloc (.cells #[.int .i64 (1 + (mm : Int)), .slice (some ⟨wr.heap.size, 0, none⟩) 1 1] 51) = w0 at *
      have hz0 : wr.heap.size + 1 < w0.heap.size := by rw [← hw0]; simp
      refine P.out.mono ?_
      rintro _ w4 ⟨rfl, F4, A4, j4, d4, wt4, hh4, hc4, e4⟩
      have e4b : j4 = ⟨0, 1 + ((i + 1 : Nat) : Int), 1, false⟩ := by rw [e4, fk_npc]; simp only [Jr.mk.injEq, and_true, true_and]; omega
      subst e4b
      rw [← fks_succ] at hh4
      have hnb4 := (wt4.block (wr.heap.size + 1) hz0 (HFX.out _ (by omega)).1 (HFX.out _ (by omega)).2).trans hnb0
      have ob4 := own_went hob wt4 (fun k hk => HFX.out k (own_block hob k hk))
      have fr4 := fr0.went wt4
      have T4 := Lib.hid (t0.new wt4 hb2)
      have er : (0 : Int) + 256 - (1 + ((i + 1 : Nat) : Int)) = 254 - i := by omega
      have RM := Lib.hid (show Calls Try.prog 19 #[.pointer (some ⟨b, 0, none⟩)] w4 (Ret (.int .i64 (254 - i)) w4) from by have := Room_any d4 (by simp) (by simp only; omega); rw [← er]; exact this)
      have D4 := Lib.hid d4
      have H4 := Lib.hid hh4
      have C4 := Lib.hid hc4
      have N4 := Lib.hid hnb4
      have O4 := Lib.hid ob4
      have R4 := Lib.hid fr4
      have hz4 := wt4.size
      have HB4 := Lib.hid (fun k (hk : k = wr.heap.size) => (show ∀ x, ¬ Fb F4 b k x from fun x hx => hx.elim (fun h2 => (wt4.fb k x h2).elim ((HFX.out k (by omega)).2 x) fun h3 => by omega) fun h2 => absurd h2 (HFX.out k (by omega)).1))
      clear P d4 wt4 hh4 hc4 e4 hnb0 hob fr0 t0 hnb4 ob4 fr4 er bb hw0 hsz
      go_wp2_with fail
      refine RM.out.mono ?_
      rintro _ _ ⟨rfl, g5, rfl⟩
      have hz5 := g5.size
      have D5 := Lib.hid (D4.out.below g5.below)
      have hnb5 := (g5.below.block (wr.heap.size + 1) (by omega)).trans N4.out
      have c50 : g5.val.cell? ⟨wr.heap.size + 1, 0, none⟩ = some (.int .i64 (1 + (mm : Int))) := (cells_of hnb5 0).1
      have c51 : g5.val.cell? ⟨wr.heap.size + 1, 1, none⟩ = some (.slice (some ⟨wr.heap.size, 0, none⟩) 1 1) := (cells_of hnb5 1).1
      have O5 := Lib.hid (own_ext O4.out g5)
      have R5 := Lib.hid (R4.out.keep (Nat.le_refl _) g5.below)
      have T5 := Lib.hid (T4.out.below g5.below)
      generalize g5.val = w5 at *
      have bb5 := below1 w5 (.cells #[.int .i64 (1 + (mm : Int)), .slice (some ⟨wr.heap.size, 0, none⟩) 1 1] 51)
      have hFx := R5.out.keep (Nat.le_refl _) bb5
      have hbx := Lib.hid (own_keep O5.out (Nat.le_refl _) bb5)
      have D6 := Lib.hid (D5.out.below bb5)
      have T6 := Lib.hid (T5.out.below bb5)
      have hz6 := T5.out.t.size
      have hnb6 := heap_alloc_new w5 (.cells #[.int .i64 (1 + (mm : Int)), .slice (some ⟨wr.heap.size, 0, none⟩) 1 1] 51)
      clear RM D4 N4 O4 R4 T4 hnb5 D5 R5 T5 O5 bb5
      go_wp2_with (at_builtin; refine wp_app_at elemF rfl _ _ rfl (B := w1.heap.size) (n := L.length) (xs := fcells L) rfl hFx.fr.row rfl (news := (Fm.mk (1 + (mm : Int)) [i] (some ⟨wr.heap.size, 0, none⟩) 1).cells) rfl (World.news_of_block hnb6) (by intro u hu; simp only [Fm.cells, List.mem_cons, List.not_mem_nil, or_false] at hu; rcases hu with rfl | rfl <;> rfl) (by decide) (by have := HLL.out; omega) (by simp; omega) ?_)
      intro g7 cap7 w7 hown7 hgr7 hat7 _
      have hF7 : FrW w7 (Fb F4 b) w1.heap.size (.slice (some ⟨g7, 0, none⟩) (L.length + 1) cap7) (L ++ [⟨1 + (mm : Int), [i], some ⟨wr.heap.size, 0, none⟩, 1⟩]) := by
        refine ⟨hFx.fr.grown (own_base hbx.out hzr) (fun k hk e => ?_) hown7 hgr7 (hat7.elim .inl fun h => .inr (by simpa using h)), fun k hk x hx => ?_, fun f hf k hk => ?_⟩
        · have t1 := (hbx.out.lt k hk).1
          have t2 := (HFr.out.fr.row.lt k e).2
          omega
        · obtain rfl : g7 = k := by simpa [Value.ownBlock] using hk
          rcases hat7 with h | h
          · exact hFx.clear g7 h x hx
          · rcases hx with hx | hx
            · exact absurd (D6.out.dw.lt hx) (by simp at h ⊢; omega)
            · exact absurd D6.out.lt (by simp at h ⊢; omega)
        · rcases List.mem_append.1 hf with h | h
          · exact hFx.bclear f h k hk
          · rw [List.mem_singleton] at h
            subst h
            exact HB4.out k (by simpa [Fm.val, Value.ownBlock] using hk.symm)
      have htd7 : told (L ++ [⟨1 + (mm : Int), [i], some ⟨wr.heap.size, 0, none⟩, 1⟩]) = fks (i + 1) := by
        rw [told_push, HTd.out, fks_succ]
        unfold fk
        rw [HMM.out]
      have D7 := Lib.hid (D6.out.grown hgr7 (fun k hk => ⟨fun e => hFx.clear k hk 0 (.inr e), fun x hx => hFx.clear k hk x (.inl hx)⟩))
      have T7 := Lib.hid (T6.out.grown hgr7 (own_block hFx.fr.row))
      have F7 := Lib.hid hF7
      have TD7 := Lib.hid htd7
      clear hF7 htd7 hown7 hgr7 hat7 hFx hnb6 c50 c51
      go_wp2_with fail
      go_roundw
      case rel => exact ⟨i + 1, F4, A4, _, L ++ [⟨1 + (mm : Int), [i], some ⟨wr.heap.size, 0, none⟩, 1⟩], by omega, by go_num, D7.out, H4.out, C4.out, T7.out, rfl, by simpa using F7.out, TD7.out⟩
      case measure => simp [intOf]; omega
    · obtain rfl : i = 255 := by omega
      rw [HLL.out] at HFr ⊢
      have CO := Lib.hid (Sx.count_w HJ.out.dw)
      clear hlt
      go_wp2_with fail
      refine CO.out.mono ?_
      rintro _ w4 h4
      obtain ⟨rfl, F4, d4, tb4⟩ := did_tb h4
      have J4 := Lib.hid (HJ.out.did d4 tb4.t tb4.fb)
      have T4 := Lib.hid (HT.out.trans tb4)
      have FR4 := Lib.hid (HFr.out.went (tb4.went (b := b)))
      clear CO h4 d4 tb4 HJ HT HFr
      go_wp2_with fail
      refine (Append_full J4.out HHo.out HCa.out (r := (1, [])) ⟨by decide, by decide, by decide, fun x hx => by cases hx⟩ (by
        have e : npc (rowF ((1 : Int), ([] : List Nat))) = 1 := by unfold npc; rw [rowF_len]; rfl
        rw [secL_fks, e]; decide) (Sl.nothing w4) (apart_none _ _ _)).mono ?_
      rintro _ w5 ⟨rfl, F5, d5, wt5⟩
      have J5 := Lib.hid d5
      have T5 := Lib.hid (T4.out.new wt5 hb2)
      have FR5 := Lib.hid (FR4.out.went wt5)
      have hLn : L.length = 255 := HLL.out
      obtain ⟨rd5, lt5, blt5⟩ := FR5.out.reads hLn
      obtain ⟨f0, hf0⟩ : ∃ f, L[0]? = some f := ⟨_, List.getElem?_eq_getElem (by omega)⟩
      obtain ⟨bR, oR, rfl, cR0, cR1, _⟩ := rd5.rd.each 0 f0 hf0
      unfold Fm.val at cR1
      rw [Nat.zero_mul, Nat.add_zero] at cR0 cR1
      have hrel : ∀ f ∈ L, RowOk (f.kind, f.body) := fun f hm => by
        have : (f.kind, f.body) ∈ fks 255 := by rw [← HTd.out]; exact List.mem_map_of_mem (f := fun f : Fm => (f.kind, f.body)) hm
        exact fks_ok (Nat.le_refl _) _ this
      have HRel := Lib.hid hrel
      have HR5 := Lib.hid rd5
      have HL5 := Lib.hid lt5
      have HBL5 := Lib.hid blt5
      have HF0 := Lib.hid hf0
      clear d5 wt5 J4 T4 FR4 rd5 lt5 blt5 hrel hf0 hLn
      have hbR : bR < w5.heap.size := HL5.out bR oR rfl
      have hsm : ∀ f ∈ L, f.body.length < 1099511627776 := fun f hm => by have := (HRel.out f hm).2.2.1; simp only at this; omega
      have HSM := Lib.hid hsm
      have hown0 := Lib.hid (FR5.out.fr.body f0 (List.mem_of_getElem? HF0.out))
      have hlt0 := Lib.hid (fun (k : Nat) (hk : f0.val.ownBlock = some k) => (show k < w5.heap.size ∧ ∀ x, ¬ Fb F5 b k x from ⟨(hown0.out.lt k hk).2, FR5.out.bclear f0 (List.mem_of_getElem? HF0.out) k hk⟩))
      have hfo0 := Lib.hid (HRel.out f0 (List.mem_of_getElem? HF0.out))
      have hblt := J5.out.lt
      have hFlt := Lib.hid (fun (k : Nat) (hk : w5.heap.size ≤ k) => (show k ≠ b ∧ ∀ x, ¬ F5 k x from ⟨by omega, fun x hx => absurd (J5.out.dw.lt hx) (by omega)⟩))
      have hz15 := T5.out.t.size
      have hbD := Lib.hid ((Below.refl w5.heap.size w5).drew)
      have hbE := Lib.hid (((Below.refl w5.heap.size w5).drew).alloc (Nat.le_refl _) (.cells #[.int .i64 f0.kind, .slice f0.ao f0.body.length f0.cap] 51))
      have e0 : (w5.drew.alloc (.cells #[.int .i64 f0.kind, .slice f0.ao f0.body.length f0.cap] 51)).cell? ⟨bR, oR, none⟩ = some (.int .i64 f0.kind) := (hbE.out.cell (p := ⟨bR, oR, none⟩) hbR).trans cR0
      have e1 : (w5.drew.alloc (.cells #[.int .i64 f0.kind, .slice f0.ao f0.body.length f0.cap] 51)).cell? ⟨bR, oR + 1, none⟩ = some (.slice f0.ao f0.body.length f0.cap) := (hbE.out.cell (p := ⟨bR, oR + 1, none⟩) hbR).trans cR1
      clear hsm hzr
      go_wp2_with fail
      go_cut [10] (fun y wx => y = .int .i64 8 ∧ Left F1 w1 (.pointer (some ⟨db, dof, none⟩)) A b ⟨0, 1 + ((255 : Nat) : Int), 1, false⟩ (.slice (some ⟨bR, oR, none⟩) 255 cf) L wx)
      case first =>
        go_region_held3 (fun w' => w'.cell? ⟨bR, oR, none⟩ = some (.int .i64 f0.kind) ∧ w'.cell? ⟨bR, oR + 1, none⟩ = some (.slice f0.ao f0.body.length f0.cap)) (first | exact ⟨cR0, cR1⟩ | exact ⟨e0, e1⟩ | exact ⟨d0, d1⟩ | exact ⟨g0, g1⟩ | exact ⟨k0, k1⟩ | exact ⟨m0, m1⟩)
          (first
            | (go_at_call 22; first
              | (refine (CopyFrames_any (HR5.out.rd.keep (Nat.le_refl _) hbD.out) HSM.out (by decide)).mono ?_; rintro _ w6 ⟨v6, L6, rfl, hb6, hf6, ht6⟩; obtain ⟨a6, c6, hv6⟩ := own_form hf6.row; subst hv6; have HL6 := Lib.hid (show L6.length = 255 from (by have := congrArg List.length ht6; rw [HTd.out] at this; simpa [told, fks_len] using this)); have HT6 := Lib.hid (show told L6 = fks 255 from ht6.trans HTd.out); have hb6' := Lib.hid (hbD.out.trans hb6); have d0 : w6.cell? ⟨bR, oR, none⟩ = some (.int .i64 f0.kind) := (hb6'.out.cell (p := ⟨bR, oR, none⟩) hbR).trans cR0; have d1 : w6.cell? ⟨bR, oR + 1, none⟩ = some (.slice f0.ao f0.body.length f0.cap) := (hb6'.out.cell (p := ⟨bR, oR + 1, none⟩) hbR).trans cR1; have HBX := Lib.hid (hb6'.out.trans ((below1 w6 (.cells #[.int .i64 f0.kind, .slice f0.ao f0.body.length f0.cap] 51)).mono hb6'.out.size)); have g0 : (w6.alloc (.cells #[.int .i64 f0.kind, .slice f0.ao f0.body.length f0.cap] 51)).cell? ⟨bR, oR, none⟩ = some (.int .i64 f0.kind) := (HBX.out.cell (p := ⟨bR, oR, none⟩) hbR).trans cR0; have g1 : (w6.alloc (.cells #[.int .i64 f0.kind, .slice f0.ao f0.body.length f0.cap] 51)).cell? ⟨bR, oR + 1, none⟩ = some (.slice f0.ao f0.body.length f0.cap) := (HBX.out.cell (p := ⟨bR, oR + 1, none⟩) hbR).trans cR1; have FX := Lib.hid (show Frames (w6.alloc (.cells #[.int .i64 f0.kind, .slice f0.ao f0.body.length f0.cap] 51)) w5.heap.size (.slice a6 L6.length c6) L6 from (by have := hf6.keep (Nat.le_refl _) (below1 w6 (.cells #[.int .i64 f0.kind, .slice f0.ao f0.body.length f0.cap] 51)); have e6 : L6.length = L.length := (by have := congrArg List.length ht6; simpa [told] using this); exact this)); have NB := Lib.hid (heap_alloc_new w6 (.cells #[.int .i64 f0.kind, .slice f0.ao f0.body.length f0.cap] 51)); clear hb6 hf6 ht6)
              | (refine (CopyFrames_any (HR5.out.rd.keep (Nat.le_refl _) hbE.out) HSM.out (by decide)).mono ?_; rintro _ w6 ⟨v6, L6, rfl, hb6, hf6, ht6⟩; obtain ⟨a6, c6, hv6⟩ := own_form hf6.row; subst hv6; have HL6 := Lib.hid (show L6.length = 255 from (by have := congrArg List.length ht6; rw [HTd.out] at this; simpa [told, fks_len] using this)); have HT6 := Lib.hid (show told L6 = fks 255 from ht6.trans HTd.out); have hb6' := Lib.hid (hbE.out.trans (hb6.mono hbE.out.size)); have d0 : w6.cell? ⟨bR, oR, none⟩ = some (.int .i64 f0.kind) := (hb6'.out.cell (p := ⟨bR, oR, none⟩) hbR).trans cR0; have d1 : w6.cell? ⟨bR, oR + 1, none⟩ = some (.slice f0.ao f0.body.length f0.cap) := (hb6'.out.cell (p := ⟨bR, oR + 1, none⟩) hbR).trans cR1; have HBX := Lib.hid hb6'.out; have FX := Lib.hid (hf6.low hbE.out.size); have NB := Lib.hid ((hb6.block w5.drew.heap.size (by simp)).trans (heap_alloc_new w5.drew (.cells #[.int .i64 f0.kind, .slice f0.ao f0.body.length f0.cap] 51))); clear hb6 hf6 ht6))
            | (refine step_app_at elemF rfl _ _ rfl (B := w5.heap.size) (n := L6.length) (xs := fcells L6) rfl FX.out.row rfl (news := f0.cells) rfl (fun y z hz => (by have := World.news_of_block NB.out y z hz; exact this)) (fun u hu => (by simp only [Fm.cells, List.mem_cons, List.not_mem_nil, or_false] at hu; rcases hu with rfl | rfl <;> rfl)) (by decide) (by have := HL6.out; omega) HBX.out.size ?_; intro g7 cap7 w7 hown7 hgr7 hat7 _; have CP := Lib.hid (Compact_many (w0 := w5) HBX.out.size (J5.out.below HBX.out) HHo.out HCa.out hFlt.out FX.out HT6.out hz15 (own_keep hown0.out (Nat.le_refl _) HBX.out) hlt0.out hfo0.out hown7 hgr7 hat7); have hk7 := hgr7.block bR (Nat.lt_of_lt_of_le hbR HBX.out.size) (fun e => Nat.not_le.2 hbR (own_block FX.out.row bR e.symm)); have hk7b := hk7.trans (HBX.out.block bR hbR); have k0 : w7.cell? ⟨bR, oR, none⟩ = some (.int .i64 f0.kind) := ((Sx.cell_block hk7b _).1).trans cR0; have k1 : w7.cell? ⟨bR, oR + 1, none⟩ = some (.slice f0.ao f0.body.length f0.cap) := ((Sx.cell_block hk7b _).1).trans cR1; have T7 := Lib.hid ((T5.out.below HBX.out).grown hgr7 (fun k hk => Nat.le_trans hz15 (own_block FX.out.row k hk))); have FR7 := Lib.hid ((FR5.out.keep (Nat.le_refl _) HBX.out).apart hgr7 (own_block FX.out.row) (fun k hk => (FR5.out.fr.row.lt k hk).2) (fun f hf k hk => ((FR5.out.fr.body f hf).lt k hk).2)); have hz7 := hgr7.size; clear hown7 hgr7 hat7)
            | (go_at_call 21; refine CP.out.mono ?_; rintro _ w8 ⟨rfl, F8, d8, wt8⟩; have hk8 := wt8.block bR (Nat.lt_of_lt_of_le hbR (Nat.le_trans HBX.out.size hz7)) (fun e => HR5.out.clear bR oR rfl 0 (.inr e)) (fun x hx => HR5.out.clear bR oR rfl x (.inl hx)); have m0 : w8.cell? ⟨bR, oR, none⟩ = some (.int .i64 f0.kind) := ((Sx.cell_block hk8 _).1).trans k0; have m1 : w8.cell? ⟨bR, oR + 1, none⟩ = some (.slice f0.ao f0.body.length f0.cap) := ((Sx.cell_block hk8 _).1).trans k1; have D8 := Lib.hid d8; have T8 := Lib.hid (T7.out.new wt8 hb2); have FR8 := Lib.hid (FR7.out.went wt8); clear d8 wt8 hk8))
        all_goals go_wp2_with fail
        all_goals go_meet
        all_goals exact ⟨rfl, F8, D8.out, T8.out, FR8.out⟩
      case rest =>
        obtain ⟨rfl, F8, d8, t8, fr8⟩ := hcut
        obtain ⟨fl1, fl2, fl3⟩ := fr_lit d8 ⟨255, [], none, 0⟩ (Sl.nothing wc) (fun k o e => by cases e)
        have CN := Lib.hid (Compact_not (d8.below (below1 wc _)) HHo.out (HHo.out.none HCa.out (R' := told [(⟨255, [], none, 0⟩ : Fm)]) (k := 2) rfl (by decide)) fl1 fl2 fl3 (fun f hf => by rw [List.mem_singleton] at hf; subst hf; exact ⟨fun x hx => (by cases hx), by decide⟩) (by decide))
        have T8 := Lib.hid (t8.below (below1 wc (.cells #[.int .i64 255, .slice none 0 0] 51)))
        have FR8 := Lib.hid (fr8.keep (Nat.le_refl _) (below1 wc (.cells #[.int .i64 255, .slice none 0 0] 51)))
        clear d8 t8 fr8 fl1 fl2 fl3 e0 e1 cR0 cR1 HR5 HL5 HBL5 hown0 hlt0 hfo0 hFlt hbD hbE T5 FR5 J5
        go_wp2_with fail
        refine CN.out.mono ?_
        rintro _ w9 ⟨rfl, F9, d9, wt9⟩
        have T9 := Lib.hid (T8.out.new wt9 hb2)
        have FR9 := Lib.hid (FR8.out.went wt9)
        obtain ⟨fo1, fo2, fo3⟩ := fr_one d9 1 (List.replicate 401 0) 401 (List.length_replicate)
        have jd9 := (d9.below (below1 w9 (.cells (bts (List.replicate 401 0)).toArray 5))).below (below1 _ (.cells #[.int .i64 1, .slice (some ⟨w9.heap.size, 0, none⟩) 401 401] 51))
        have hc5 : compE0 (told [(⟨1, List.replicate 401 0, some ⟨w9.heap.size, 0, none⟩, 401⟩ : Fm)]) = 5 := by
          show (if laidE 1 (List.replicate 401 0).length = 0 then _ else laidE 1 (List.replicate 401 0).length) = 5
          rw [List.length_replicate]
          rfl
        have CN9 := Lib.hid (Compact_not jd9 HHo.out (HHo.out.none HCa.out hc5 (by decide)) fo1 fo2 fo3 (fun f hf => by rw [List.mem_singleton] at hf; subst hf; exact ⟨zeros_small _, by rw [List.length_replicate]; decide⟩) (by decide))
        have hb9 := Lib.hid (((below1 w9 (.cells (bts (List.replicate 401 0)).toArray 5))).alloc (by simp) (.cells #[.int .i64 1, .slice (some ⟨w9.heap.size, 0, none⟩) 401 401] 51))
        have T10 := Lib.hid (T9.out.below hb9.out)
        have FR10 := Lib.hid (FR9.out.keep (Nat.le_refl _) hb9.out)
        clear CN T8 FR8 d9 wt9 fo1 fo2 fo3 jd9 T9 FR9 hb9 hc5
        go_wp2_with fail
        refine CN9.out.mono ?_
        rintro _ w10 ⟨rfl, F10, d10, wt10⟩
        have T11 := Lib.hid (T10.out.new wt10 hb2)
        have FR11 := Lib.hid (FR10.out.went wt10)
        have CO := Lib.hid (Sx.count_w d10.dw)
        have D10 := Lib.hid d10
        clear CN9 T10 FR10 d10 wt10
        go_wp2_with fail
        refine CO.out.mono ?_
        rintro _ w11 h11
        obtain ⟨rfl, F11, d11, tb11⟩ := did_tb h11
        have j11 := D10.out.did d11 tb11.t tb11.fb
        have T12 := Lib.hid (T11.out.trans tb11)
        have FR12 := Lib.hid (FR11.out.went (tb11.went (b := b)))
        have TU := Lib.hid (Turn_any j11)
        have J11 := Lib.hid j11
        clear CO h11 d11 tb11 j11 D10 T11 FR11
        go_wp2_with fail
        refine TU.out.mono ?_
        rintro _ _ ⟨rfl, g12, rfl⟩
        have J12 := Lib.hid (J11.out.below g12.below)
        have T13 := Lib.hid (T12.out.below g12.below)
        have FR13 := Lib.hid (FR12.out.keep (Nat.le_refl _) g12.below)
        generalize g12.val = w12 at *
        obtain ⟨rd13, lt13, blt13⟩ := FR13.out.reads HLL.out
        have hcf := rd13.rd.le
        have hcf2 : (1 : Int) ≤ cf := by omega
        have hcf3 : ¬ cf = 1 := by omega
        obtain ⟨Lt, rfl⟩ : ∃ Lt, L = f0 :: Lt := by
          have := HF0.out
          cases L with
          | nil => cases this
          | cons q Lt => cases this; exact ⟨Lt, rfl⟩
        have hLt : Lt.length = 254 := by have := HLL.out; simpa using this
        have htl : told Lt = (fks 255).tail := by rw [← HTd.out]; rfl
        have hsub : ∀ r ∈ told Lt, r ∈ fks 255 := fun r hr => by rw [htl] at hr; exact List.mem_of_mem_tail hr
        have hl254 : (secL (told Lt)).length = 254 := by rw [secL_ones fun r hr => fks_npc (hsub r hr)]; simp [told, hLt]
        have CK := Lib.hid (Compact_ok J12.out HHo.out HCa.out (L := Lt) (n := 254) (c := cf - 1) (fun r hr => fks_ok (Nat.le_refl _) r (hsub r hr)) (by rw [hl254]; decide) (by decide) rd13.tail (fun k o e => by cases e; exact lt13 bR oR rfl) (fun f hf => blt13 f (List.mem_cons_of_mem _ hf)) (by decide))
        rw [hl254] at CK
        have HLt := Lib.hid hLt
        have HL254 := Lib.hid hl254
        have HTL := Lib.hid htl
        clear TU J11 T12 FR12 rd13 lt13 blt13 hLt htl hsub hl254
        go_wp2_with fail
        refine CK.out.mono ?_
        rintro _ w13 ⟨rfl, F13, A13, j13, d13, wt13, hh13, hc13, e13, _⟩
        have e13b : j13 = ⟨256, 511, 2, false⟩ := by rw [e13]; rfl
        subst e13b
        have T14 := Lib.hid (T13.out.new wt13 hb2)
        have FR14 := Lib.hid (FR13.out.went wt13)
        have jl := d13.below (below1 w13 (.cells #[.int .u8 108, .int .u8 97, .int .u8 115, .int .u8 116] 5 (4, 5)))
        have AP := Lib.hid (Append_ok jl hh13 hc13 lastR_ok (by rw [HL254.out, lastR_npc]; decide) (kind := 7) rfl (sl_marked w13 #[.int .u8 108, .int .u8 97, .int .u8 115, .int .u8 116] 5 4 w13.heap.size (4, 5) rfl rfl) (apart_new d13 _))
        have T15 := Lib.hid (T14.out.below (below1 w13 (.cells #[.int .u8 108, .int .u8 97, .int .u8 115, .int .u8 116] 5 (4, 5))))
        have FR15 := Lib.hid (FR14.out.keep (Nat.le_refl _) (below1 w13 (.cells #[.int .u8 108, .int .u8 97, .int .u8 115, .int .u8 116] 5 (4, 5))))
        clear CK T13 FR13 d13 wt13 jl hh13 hc13 e13 T14 FR14
        go_wp2_with fail
        refine AP.out.mono ?_
        rintro _ w14 ⟨rfl, F14, A14, j14, d14, wt14, hh14, hc14, e14⟩
        have e14b : j14 = ⟨256, 512, 2, false⟩ := by rw [e14, lastR_npc]; rfl
        subst e14b
        have T16 := Lib.hid (T15.out.new wt14 hb2)
        have FR16 := Lib.hid (FR15.out.went wt14)
        have OP := Lib.hid (Open_ok d14.dw hh14.half.sm (hh14.opens hc14.on))
        have J14 := Lib.hid d14
        clear AP T15 FR15 d14 wt14 hh14 hc14 e14
        go_wp2_with fail
        refine OP.out.mono ?_
        rintro _ w15 ⟨F15, b15, ao15, c15, L15, rfl, j15, tb15, hb15, fr15, tl15⟩
        have J15 := Lib.hid (J14.out.did j15.dw tb15.t tb15.fb)
        have T17 := Lib.hid (T16.out.trans tb15)
        have FR17 := Lib.hid (FR16.out.went (tb15.went (b := b)))
        have FR15' := Lib.hid fr15
        have TL15 := Lib.hid tl15
        clear OP T16 FR16 J14 j15 tb15 fr15 tl15
        have hR15 : (told Lt ++ [lastR]).length = 255 := by
          have := HLt.out
          simp [told, this]
        have hL15 : L15.length = 255 := by rw [← hR15, ← TL15.out]; simp [told]
        obtain ⟨La, fz, hLa, hLal⟩ : ∃ La fz, L15 = La ++ [fz] ∧ La.length = 254 := by
          refine ⟨L15.take 254, L15[254]'(by omega), ?_, by rw [List.length_take]; omega⟩
          rw [← List.take_succ_eq_append_getElem (by omega)]
          exact (List.take_of_length_le (by omega)).symm
        subst hLa
        have htd15 := TL15.out
        rw [told_push] at htd15
        have hta : told La = told Lt ∧ (fz.kind, fz.body) = lastR := by
          have e1 : (told La).length = (told Lt).length := by have := HLt.out; simp [told, hLal, this]
          obtain ⟨q1, q2⟩ := List.append_inj htd15 e1
          exact ⟨q1, by simpa using q2⟩
        have rd15 := (FR15'.out.reads (by rw [hL15, hR15])).1.rd
        rw [hR15] at rd15
        obtain ⟨bz, oz, rfl, cz, _, _⟩ := rd15.each 254 fz (by rw [List.getElem?_append_right (by omega), hLal]; rfl)
        have hz7 : fz.kind = 7 := congrArg Prod.fst hta.2
        rw [hz7] at cz
        have hb15s : ∀ f ∈ La, f.body.length < 1099511627776 := fun f hm => by
          have : (f.kind, f.body) ∈ told Lt := by rw [← hta.1]; exact List.mem_map_of_mem (f := fun f : Fm => (f.kind, f.body)) hm
          rw [HTL.out] at this
          have := (fks_ok (Nat.le_refl _) _ (List.mem_of_mem_tail this)).2.2.1
          simp only at this; omega
        have hbts : ∀ f ∈ Lt, f.body.length < 1099511627776 := fun f hm => HSM.out f (List.mem_cons_of_mem _ hm)
        have rdT := (FR17.out.reads HLL.out).1.tail.rd
        have rdA := rd15.front hLal
        have hcz := rd15.le
        have hcz2 : (254 : Int) ≤ c15 := by omega
        have HcS := Lib.hid (decide_eq_true hta.1)
        have cS : ∀ g : Ext w15, Calls Try.prog 18 #[.slice (some ⟨bz, oz, none⟩) 254 c15, .slice (some ⟨bR, oR + 2, none⟩) 254 (cf - 1)] g.val (Ret (.bool true) g.val) := fun g => by
          have := SameFrames_any (rdA.ext g) (rdT.ext g) hb15s hbts (by decide)
          rw [HcS.out] at this
          exact this
        have cT : ∀ g : Ext w15, Calls Try.prog 23 #[.pointer (some ⟨b, 0, none⟩)] g.val (Ret (.int .i64 2) g.val) := fun g => Turn_any (J15.out.below g.below)
        have cR : ∀ g : Ext w15, Calls Try.prog 19 #[.pointer (some ⟨b, 0, none⟩)] g.val (Ret (.int .i64 0) g.val) := fun g => Room_any (J15.out.below g.below) (by decide) (by decide)
        have cK : ∀ g : Ext w15, Calls Try.prog 11 #[] g.val (Ret (.bool true) g.val) := fun g => Known_any g.val
        have gz := ext_cell cz
        have HB17 := Lib.hid (tb_below HB1.out T17.out HF1.out)
        rw [hR15]
        clear rd15 rdT rdA cz htd15 hta hb15s hbts hz7 hL15 hLal HLt HL254 HTL T17 FR17 FR15' TL15 J15 HRel HSM HTd HLL HF0 hR15
        go_wp2_with fail
        (refine wp_region_grow (by kernel_rfl) (by kernel_rfl) ?_; (repeat (go_big_quiet_step ((first | (go_at_call 23; exact Calls.ext_of (cT _)) | (go_at_call 19; exact Calls.ext_of (cR _)) | (go_at_call 18; exact Calls.ext_of (cS _)) | (go_at_call 11; exact Calls.ext_of (cK _)))))); refine wpQuiet_nil ?_; rintro _ ⟨g, rfl⟩)
        go_wp2
        go_ret
        exact Ret.mk_of (g.up HB17.out) rfl
end Go.Proofs.Ytaigdbnfhehclaa
