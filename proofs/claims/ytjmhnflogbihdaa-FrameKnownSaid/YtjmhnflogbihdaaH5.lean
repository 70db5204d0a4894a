/- What is proved: the walks of mangrovekit's SameFrames, SpoilFrames, SpoilFramesDeep (layer 4). No condition. -/
import Derived.Test.YtjmhnflogbihdaaH4
namespace Go.Proofs.Ytjmhnflogbihdaa
open Go.RowKit

/-- These frames are read there. -/
structure FrR (w : World) (ao : Option Addr) (n cap : Nat) (L : List Fm) : Prop where
  len : L.length = n
  le : n ≤ cap
  nil : ao = none → cap = 0
  each : ∀ (i : Nat) f, L[i]? = some f → ∃ b o, ao = some ⟨b, o, none⟩ ∧ w.cell? ⟨b, o + i * 2, none⟩ = some (.int .i64 f.kind) ∧ w.cell? ⟨b, o + i * 2 + 1, none⟩ = some f.val ∧ Sl w f.ao f.body.length f.cap (bts f.body)

theorem FrR.keep {w w' : World} {B : Nat} {ao : Option Addr} {n cap : Nat} {L : List Fm} (h : FrR w ao n cap L) (hB : w.heap.size ≤ B) (hw : Below B w w') : FrR w' ao n cap L := by
  refine ⟨h.len, h.le, h.nil, fun i f hf => ?_⟩
  obtain ⟨b, o, e, h1, h2, h3⟩ := h.each i f hf
  have hb := World.block_lt_of_cell? w ⟨b, o + i * 2, none⟩ h1
  exact ⟨b, o, e, by rw [hw.cell (p := ⟨b, o + i * 2, none⟩) (Nat.lt_of_lt_of_le hb hB)]; exact h1, by rw [hw.cell (p := ⟨b, o + i * 2 + 1, none⟩) (Nat.lt_of_lt_of_le hb hB)]; exact h2, h3.keep hB hw⟩
theorem FrR.ext {w : World} {ao : Option Addr} {n cap : Nat} {L : List Fm} (h : FrR w ao n cap L) (g : Ext w) : FrR g.val ao n cap L := h.keep (Nat.le_refl _) g.below

theorem fcells_at (L : List Fm) : ∀ (i : Nat) f, L[i]? = some f → (fcells L)[i * 2]? = some (.int .i64 f.kind) ∧ (fcells L)[i * 2 + 1]? = some f.val := by
  induction L with
  | nil => intro i f h; simp at h
  | cons g L ih =>
    intro i f h
    have e : fcells (g :: L) = .int .i64 g.kind :: g.val :: fcells L := rfl
    rw [e]
    cases i with
    | zero =>
      obtain rfl : g = f := by simpa using h
      exact ⟨rfl, rfl⟩
    | succ i =>
      have := ih i f (by simpa using h)
      rw [show (i + 1) * 2 = i * 2 + 1 + 1 by omega]
      simpa using this

theorem Frames.reads {w : World} {B : Nat} {ao : Option Addr} {n cap : Nat} {L : List Fm} (h : Frames w B (.slice ao n cap) L) (hn : L.length = n) : FrR w ao n cap L := by
  subst hn
  have hr := h.row
  rcases hr.2 with ⟨hv, h0⟩ | ⟨g, c, cur, hv, hb, hg, hn, hm, hs, ht⟩
  · obtain ⟨rfl, e2, rfl⟩ := Value.slice.inj hv
    have : L = [] := List.eq_nil_of_length_eq_zero e2
    subst this
    exact ⟨rfl, Nat.le_refl _, fun _ => rfl, fun i f hf => by simp at hf⟩
  · cases hv
    refine ⟨rfl, hn, fun h => by (cases h), fun i f hf => ⟨g, 0, rfl, ?_, ?_, Sl.own (h.body f (List.mem_of_getElem? hf))⟩⟩
    · have := hr.cells (g := g) rfl (i * 2) _ (fcells_at L i f hf).1
      rw [add_plain_addr] at this
      exact this
    · have := hr.cells (g := g) rfl (i * 2 + 1) _ (fcells_at L i f hf).2
      rw [add_plain_addr] at this
      rw [Nat.add_assoc]
      exact this

theorem SameBytes_same {w : World} {ao bo : Option Addr} {n m c d : Nat} {l k : List Nat} (hl : Sl w ao n c (bts l)) (hk : Sl w bo m d (bts k)) (hlk : l = k) (hn : n < 1099511627776) : Calls Try.prog 13 #[.slice ao n c, .slice bo m d] w (Ret (.bool true) w) := by
  have := SameBytes_any hl hk hn (by rw [← hk.len, ← hlk, hl.len]; exact hn)
  rwa [decide_eq_true hlk] at this

theorem told_at {L K : List Fm} (h : told L = told K) {i : Nat} {f : Fm} (hf : L[i]? = some f) : ∃ f', K[i]? = some f' ∧ f.kind = f'.kind ∧ f.body = f'.body := by
  have := congrArg (fun q => q[i]?) h
  simp only [told, List.getElem?_map, hf, Option.map_some] at this
  cases e : K[i]? with
  | none => rw [e] at this; simp at this
  | some f' =>
    rw [e] at this
    simp only [Option.map_some, Option.some.injEq, Prod.mk.injEq] at this
    exact ⟨f', rfl, this.1, this.2⟩

set_option maxHeartbeats 2000000 in
theorem SameFrames_true {w : World} {ao bo : Option Addr} {n c d : Nat} {L K : List Fm} (hL : FrR w ao n c L) (hK : FrR w bo n d K) (ht : told L = told K) (hs : ∀ f ∈ L, f.body.length < 1099511627776) (hmax : n < 1099511627776) :
    Calls Try.prog 23 #[.slice ao n c, .slice bo n d] w (Ret (.bool true) w) := by
  go_enter Try.func23, Try.ntmps23
  go_wp2
  go_loopw [5] (fun i wr => ∃ j : Nat, j ≤ n ∧ i = .int .i64 j ∧ Below w.heap.size w wr) (fun i _ => n - (intOf i).toNat)
  case atStart => exact ⟨0, by omega, rfl, Below.refl _ _⟩
  case round =>
    obtain ⟨j, hj, rfl, hb⟩ := hrel
    by_cases hlt : j < n
    · have hlt' : (j : Int) < n := by omega
      obtain ⟨f, hf⟩ : ∃ f, L[j]? = some f := ⟨_, List.getElem?_eq_getElem (by rw [hL.len]; exact hlt)⟩
      obtain ⟨f', hf', ek, eb⟩ := told_at ht hf
      obtain ⟨b, o, rfl, q1, q2, q3⟩ := (hL.keep (Nat.le_refl _) hb).each j f hf
      obtain ⟨b', o', rfl, q1', q2', q3'⟩ := (hK.keep (Nat.le_refl _) hb).each j f' hf'
      rw [← ek] at q1'
      have e1 := ext_cell q1
      have e2 := ext_cell q2
      have e1' := ext_cell q1'
      have e2' := ext_cell q2'
      unfold Fm.val at e2 e2'
      have hcall := fun g : Ext wr => SameBytes_same (q3.ext g) (q3'.ext g) eb (hs f (List.mem_of_getElem? hf))
      have HT : Hid (told L = told K) := ht
      clear ht hf hf' q1 q2 q3 q1' q2' q3' ek eb
      go_wp2
      (refine wp_region_grow (by kernel_rfl) (by kernel_rfl) ?_; (repeat (go_big_quiet_step ((first | (go_at_call 13; exact Calls.ext_of (hcall _)))))); refine wpQuiet_nil ?_; rintro _ ⟨g, rfl⟩)
      go_wp2
      go_roundw
      case rel => exact ⟨j + 1, by omega, rfl, g.up hb⟩
      case measure => simp [intOf]; omega
    · have hlt' : ¬ (j : Int) < n := by omega
      go_wp2
      go_ret
      exact Ret.mk hb

theorem markFrames_any (k : Nat) (hk : k < 1099511627776) (w : World) : Calls Try.prog 31 #[.int .i64 (k : Int)] w (fun e w' => ∃ z : Int, e = .returned (.agg #[.int .i64 z, .slice none 0 0]) ∧ ∃ g : Ext w, w' = g.val) := by
  go_enter Try.func31, Try.ntmps31
  go_wp2
  refine bodyPost_ret (results_row rfl Try.underlying33 rfl (by kernel_rfl) _ _ w.heap.size rfl (cs := #[.int .i64 (-9 - k), .slice none 0 0]) (by simp [rowOf_alloc]) rfl) rfl ?_
  exact ⟨_, rfl, ⟨_, below1 _ _⟩, rfl⟩

theorem SpoilFrames_own {w : World} {B : Nat} {ao : Option Addr} {n c : Nat} (h : ∃ xs, w.ownsRow B 33 2 (.slice ao n c) n xs) (hn : n < 549755813888) : Calls Try.prog 30 #[.slice ao n c] w (fun e w' => e = .returned (.tuple #[]) ∧ Below B w w') := by
  go_enter Try.func30, Try.ntmps30
  go_wp2
  go_loopw [2] (fun i wr => ∃ j : Nat, j ≤ n ∧ i = .int .i64 j ∧ (∃ xs, wr.ownsRow B 33 2 (.slice ao n c) n xs) ∧ Below B w wr) (fun i _ => n - (intOf i).toNat)
  case atStart => exact ⟨0, by omega, rfl, h, Below.refl _ _⟩
  case round =>
    obtain ⟨j, hj, rfl, ⟨xs, hown⟩, hb⟩ := hrel
    by_cases hlt : j < n
    · have hlt' : (j : Int) < n := by omega
      obtain ⟨gb, cc, hv, hB, hgl⟩ := hown.form (by omega)
      cases hv
      go_wp2_with fail
      refine (markFrames_any (j + 7) (by omega) _).mono ?_
      rintro _ _ ⟨z, rfl, g1, rfl⟩
      have hown1 := own_ext hown g1
      have hxl : xs.length = n * 2 := hown1.1
      obtain ⟨x0, hx0⟩ : ∃ x, xs[j * 2]? = some x := ⟨_, List.getElem?_eq_getElem (by omega)⟩
      obtain ⟨x1, hx1⟩ : ∃ x, xs[j * 2 + 1]? = some x := ⟨_, List.getElem?_eq_getElem (by omega)⟩
      have c0 : g1.val.cell? ⟨gb, j * 2, none⟩ = some x0 := by have := hown1.cells (g := gb) rfl _ _ hx0; rw [add_plain_addr, Nat.zero_add] at this; exact this
      have c1 : g1.val.cell? ⟨gb, j * 2 + 1, none⟩ = some x1 := by have := hown1.cells (g := gb) rfl _ _ hx1; rw [add_plain_addr, Nat.zero_add] at this; exact this
      have hfr := fun j => own_unfrozen (j := j) hown1
      clear hx0 hx1
      go_wp2_with fail
      go_roundw
      case rel =>
        refine ⟨j + 1, by omega, rfl, own_some_set (own_some_set ⟨xs, hown1⟩), ?_⟩
        exact ((hb.trans (g1.below.mono (Nat.le_trans hB (Nat.le_of_lt hgl)))).setCell hB _).setCell hB _
      case measure => simp [intOf]; omega
    · have hlt' : ¬ (j : Int) < n := by omega
      go_wp2
      refine bodyPost_end (results_none rfl _ _ _) rfl ?_
      exact ⟨rfl, hb⟩

theorem SpoilFramesDeep_own {w : World} {B : Nat} {ao : Option Addr} {n c : Nat} {L : List Fm} (hF : Frames w B (.slice ao n c) L) (hL : L.length = n) (hs : ∀ f ∈ L, f.body.length < 549755813888) (hn : n < 549755813888) :
    Calls Try.prog 25 #[.slice ao n c] w (fun e w' => e = .returned (.tuple #[]) ∧ Below B w w') := by
  subst hL
  go_enter Try.func25, Try.ntmps25
  go_wp2
  go_loopw [2] (fun i wr => ∃ j : Nat, j ≤ L.length ∧ i = .int .i64 j ∧ wr.ownsRow B 33 2 (.slice ao L.length c) L.length (fcells L) ∧ (∀ f ∈ L, ∃ ys, wr.ownsRow B 5 1 f.val f.body.length ys) ∧ Below B w wr) (fun i _ => L.length - (intOf i).toNat)
  case atStart => exact ⟨0, by omega, rfl, hF.row, fun f hf => ⟨_, hF.body f hf⟩, Below.refl _ _⟩
  case round =>
    obtain ⟨j, hj, rfl, hown, hbod, hb⟩ := hrel
    by_cases hlt : j < L.length
    · have hlt' : (j : Int) < L.length := by omega
      obtain ⟨f, hf⟩ : ∃ f, L[j]? = some f := ⟨_, List.getElem?_eq_getElem hlt⟩
      have hfm := List.mem_of_getElem? hf
      obtain ⟨gb, cc, hv, hB, hgl⟩ := hown.form (by omega)
      cases hv
      have c1 : wr.cell? ⟨gb, j * 2 + 1, none⟩ = some f.val := by have := hown.cells (g := gb) rfl _ _ (fcells_at L j f hf).2; rw [add_plain_addr, Nat.zero_add] at this; exact this
      obtain ⟨ys, hys⟩ := hbod f hfm
      have hap := hF.apart f hfm
      have HF : Hid (Frames w B (.slice (some ⟨gb, 0, none⟩) L.length c) L) := hF
      have HB : Hid (∀ f ∈ L, ∃ ys, wr.ownsRow B 5 1 f.val f.body.length ys) := hbod
      have HA : Hid (∀ k, f.val.ownBlock = some k → (Value.slice (some ⟨gb, 0, none⟩) L.length c).ownBlock ≠ some k) := hap
      clear hap hF hbod hf
      have hsf := hs f hfm
      unfold Fm.val at c1 hys
      go_wp2_with fail
      refine (SpoilBytes_own ⟨ys, hys⟩ hsf).mono ?_
      rintro _ w2 ⟨rfl, hgr, hall⟩
      go_wp2_with fail
      go_roundw
      case rel =>
        refine ⟨j + 1, by omega, rfl, hown.kept hgr ?_, fun f' hf' => hall _ _ _ _ _ (HB.out f' hf'), hb.grown hgr ?_ (fun k hk => (hys.lt k hk).1)⟩
        · exact .inr fun e => HA.out gb e.symm rfl
        · omega
      case measure => simp [intOf]; omega
    · have hlt' : ¬ (j : Int) < L.length := by omega
      go_wp2_with fail
      refine (SpoilFrames_own ⟨_, hown⟩ hn).mono ?_
      rintro _ w2 ⟨rfl, hb2⟩
      go_wp2_with fail
      refine bodyPost_end (results_none rfl _ _ _) rfl ?_
      exact ⟨rfl, hb.trans hb2⟩
end Go.Proofs.Ytjmhnflogbihdaa
