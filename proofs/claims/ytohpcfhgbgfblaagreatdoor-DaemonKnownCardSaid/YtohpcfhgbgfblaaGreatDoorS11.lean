/- What is proved: parts of the walk and of the plain law, 1 texts in one. No condition but those each law names. -/
import Derived.Test.YtohpcfhgbgfblaaGreatDoorS10
namespace Go.Proofs.YtohpcfhgbgfblaaGreatDoor
open Go.RowKit
open Sx (Ab DW Turns Did Foot z128)
set_option maxRecDepth 100000

theorem elemF : Elem Tryz.prog 75 82 2 := Elem.mk' Tryz.underlying75 (by kernel_rfl) (z := .agg #[.int .i64 0, .slice none 0 0]) (bytes := 32) rfl (by decide) (by decide)
/-- A frame in memory: its kind, its bytes, where they lie and their room. -/
structure Fm where
  kind : Int
  body : List Nat
  ao : Option Addr
  cap : Nat
def Fm.val (f : Fm) : Value := .slice f.ao f.body.length f.cap
def Fm.cells (f : Fm) : List Value := [.int .i64 f.kind, f.val]
def fcells (L : List Fm) : List Value := L.flatMap Fm.cells
def told (L : List Fm) : List (Int × List Nat) := L.map fun f => (f.kind, f.body)

theorem fcells_length (L : List Fm) : (fcells L).length = L.length * 2 := by
  induction L with
  | nil => rfl
  | cons f L ih => simp only [fcells, List.flatMap_cons, List.length_append, List.length_cons] at *; rw [ih]; simp [Fm.cells]; omega

/-- The slice v owns these frames, in a row from block B on; their bytes lie in rows of their own, other than the frames'. -/
structure Frames (w : World) (B : Nat) (v : Value) (L : List Fm) : Prop where
  row : w.ownsRow B 82 2 v L.length (fcells L)
  body : ∀ f ∈ L, w.ownsRow B 5 1 f.val f.body.length (bts f.body)
  apart : ∀ f ∈ L, ∀ k, f.val.ownBlock = some k → v.ownBlock ≠ some k

theorem Frames.nil (w : World) (B : Nat) : Frames w B (.slice none 0 0) [] := ⟨World.ownsRow_nil _ _ _ _, fun f hf => by simp at hf, fun f hf => by simp at hf⟩

theorem Frames.keep {w w' : World} {B B1 : Nat} {v : Value} {L : List Fm} (h : Frames w B v L) (hB : w.heap.size ≤ B1) (hw : Below B1 w w') : Frames w' B v L :=
  ⟨own_keep h.row hB hw, fun f hf => own_keep (h.body f hf) hB hw, h.apart⟩

/-- One frame more. -/
theorem Frames.grown {w1 w' : World} {B : Nat} {v : Value} {L : List Fm} {f : Fm} (h : Frames w1 B v L) (hf : w1.ownsRow B 5 1 f.val f.body.length (bts f.body)) (ha : ∀ k, f.val.ownBlock = some k → v.ownBlock ≠ some k)
    {g cap : Nat} (hown : w'.ownsRow B 82 2 (.slice (some ⟨g, 0, none⟩) (L.length + 1) cap) (L.length + 1) (fcells L ++ f.cells)) (hgr : w1.grownBy w' v.ownBlock) (hat : v.ownBlock = some g ∨ g = w1.heap.size) :
    Frames w' B (.slice (some ⟨g, 0, none⟩) (L.length + 1) cap) (L ++ [f]) := by
  have all : ∀ f' ∈ L ++ [f], w1.ownsRow B 5 1 f'.val f'.body.length (bts f'.body) ∧ ∀ k, f'.val.ownBlock = some k → v.ownBlock ≠ some k := fun f' hf' => by
    rcases List.mem_append.1 hf' with h1 | h1
    · exact ⟨h.body f' h1, h.apart f' h1⟩
    · rw [List.mem_singleton] at h1
      subst h1
      exact ⟨hf, ha⟩
  refine ⟨?_, fun f' hf' => ?_, fun f' hf' k hk => ?_⟩
  · rw [List.length_append]
    have : fcells (L ++ [f]) = fcells L ++ f.cells := by simp [fcells]
    rw [this]
    exact hown
  · obtain ⟨h1, h2⟩ := all f' hf'
    refine h1.kept hgr ?_
    cases e : f'.val.ownBlock with
    | none => exact .inl rfl
    | some k => exact .inr fun e2 => h2 k e (by rw [← e2])
  · obtain ⟨h1, h2⟩ := all f' hf'
    intro e
    have e' : g = k := by simpa [Value.ownBlock] using e
    subst e'
    rcases hat with hat | hat
    · exact h2 _ hk hat
    · have := (h1.lt _ hk).2
      omega
/-- These frames are read there. -/
structure FrR (w : World) (ao : Option Addr) (n cap : Nat) (L : List Fm) : Prop where
  len : L.length = n
  le : n ≤ cap
  nil : ao = none → cap = 0
  each : ∀ (i : Nat) f, L[i]? = some f → ∃ b o, ao = some ⟨b, o, none⟩ ∧ w.cell? ⟨b, o + i * 2, none⟩ = some (.int .i64 f.kind) ∧ w.cell? ⟨b, o + i * 2 + 1, none⟩ = some f.val ∧ Sl w f.ao f.body.length f.cap (bts f.body)

theorem FrR.keep {w w' : World} {B : Nat} {ao : Option Addr} {n cap : Nat} {L : List Fm} (h : FrR w ao n cap L) (hB : w.heap.size ≤ B) (hw : Below B w w') : FrR w' ao n cap L := by
  refine ⟨h.len, h.le, h.nil, fun i f hf => ?_⟩
  obtain ⟨b, o, e, h1, h2, h3⟩ := h.each i f hf
  have hb := World.block_lt_of_cell? w ⟨b, o + i * 2, none⟩ h1
  exact ⟨b, o, e, by rw [hw.cell (p := ⟨b, o + i * 2, none⟩) (Nat.lt_of_lt_of_le hb hB)]; exact h1, by rw [hw.cell (p := ⟨b, o + i * 2 + 1, none⟩) (Nat.lt_of_lt_of_le hb hB)]; exact h2, h3.keep hB hw⟩
theorem FrR.ext {w : World} {ao : Option Addr} {n cap : Nat} {L : List Fm} (h : FrR w ao n cap L) (g : Ext w) : FrR g.val ao n cap L := h.keep (Nat.le_refl _) g.below

theorem fcells_at (L : List Fm) : ∀ (i : Nat) f, L[i]? = some f → (fcells L)[i * 2]? = some (.int .i64 f.kind) ∧ (fcells L)[i * 2 + 1]? = some f.val := by
  induction L with
  | nil => intro i f h; simp at h
  | cons g L ih =>
    intro i f h
    have e : fcells (g :: L) = .int .i64 g.kind :: g.val :: fcells L := rfl
    rw [e]
    cases i with
    | zero =>
      obtain rfl : g = f := by simpa using h
      exact ⟨rfl, rfl⟩
    | succ i =>
      have := ih i f (by simpa using h)
      rw [show (i + 1) * 2 = i * 2 + 1 + 1 by omega]
      simpa using this

theorem Frames.reads {w : World} {B : Nat} {ao : Option Addr} {n cap : Nat} {L : List Fm} (h : Frames w B (.slice ao n cap) L) (hn : L.length = n) : FrR w ao n cap L := by
  subst hn
  have hr := h.row
  rcases hr.2 with ⟨hv, h0⟩ | ⟨g, c, cur, hv, hb, hg, hn, hm, hs, ht⟩
  · obtain ⟨rfl, e2, rfl⟩ := Value.slice.inj hv
    have : L = [] := List.eq_nil_of_length_eq_zero e2
    subst this
    exact ⟨rfl, Nat.le_refl _, fun _ => rfl, fun i f hf => by simp at hf⟩
  · cases hv
    refine ⟨rfl, hn, fun h => by (cases h), fun i f hf => ⟨g, 0, rfl, ?_, ?_, Sl.own (h.body f (List.mem_of_getElem? hf))⟩⟩
    · have := hr.cells (g := g) rfl (i * 2) _ (fcells_at L i f hf).1
      rw [add_plain_addr] at this
      exact this
    · have := hr.cells (g := g) rfl (i * 2 + 1) _ (fcells_at L i f hf).2
      rw [add_plain_addr] at this
      rw [Nat.add_assoc]
      exact this

theorem told_at {L K : List Fm} (h : told L = told K) {i : Nat} {f : Fm} (hf : L[i]? = some f) : ∃ f', K[i]? = some f' ∧ f.kind = f'.kind ∧ f.body = f'.body := by
  have := congrArg (fun q => q[i]?) h
  simp only [told, List.getElem?_map, hf, Option.map_some] at this
  cases e : K[i]? with
  | none => rw [e] at this; simp at this
  | some f' =>
    rw [e] at this
    simp only [Option.map_some, Option.some.injEq, Prod.mk.injEq] at this
    exact ⟨f', rfl, this.1, this.2⟩

set_option maxHeartbeats 2000000 in
/-- .. and they lie apart from the disk. -/
structure FrW (w : World) (F : Foot) (B : Nat) (v : Value) (L : List Fm) : Prop where
  fr : Frames w B v L
  clear : ∀ k, v.ownBlock = some k → ∀ x, ¬ F k x
  bclear : ∀ f ∈ L, ∀ k, f.val.ownBlock = some k → ∀ x, ¬ F k x
theorem FrW.nil (w : World) (F : Foot) (B : Nat) : FrW w F B (.slice none 0 0) [] := ⟨Frames.nil w B, (fun k hk => by cases hk), fun f hf => by simp at hf⟩
theorem Frames.heap {w w' : World} {B : Nat} {v : Value} {L : List Fm} (h : Frames w B v L) (hv : ∀ k, v.ownBlock = some k → w'.heap[k]? = w.heap[k]?) (hf : ∀ f ∈ L, ∀ k, f.val.ownBlock = some k → w'.heap[k]? = w.heap[k]?) : Frames w' B v L :=
  ⟨own_heap h.row hv, fun f hm => own_heap (h.body f hm) (hf f hm), h.apart⟩
theorem FrW.tb {w w' : World} {F F' : Foot} {B : Nat} {v : Value} {L : List Fm} (h : FrW w F B v L) (ht : TB F w F' w') : FrW w' F' B v L :=
  ⟨h.fr.heap (fun k hk => ht.t.block k (h.fr.row.lt k hk).2 (h.clear k hk)) (fun f hf k hk => ht.t.block k ((h.fr.body f hf).lt k hk).2 (h.bclear f hf k hk)),
   own_clear h.fr.row ht h.clear, fun f hf => own_clear (h.fr.body f hf) ht (h.bclear f hf)⟩
theorem FrW.base {w : World} {F : Foot} {B B' : Nat} {v : Value} {L : List Fm} (h : FrW w F B v L) (hB : B' ≤ B) : FrW w F B' v L :=
  ⟨⟨own_base h.fr.row hB, fun f hf => own_base (h.fr.body f hf) hB, h.fr.apart⟩, h.clear, h.bclear⟩
theorem FrW.keep {w w' : World} {F : Foot} {B B1 : Nat} {v : Value} {L : List Fm} (h : FrW w F B v L) (hB : w.heap.size ≤ B1) (hw : Below B1 w w') : FrW w' F B v L := ⟨h.fr.keep hB hw, h.clear, h.bclear⟩
end Go.Proofs.YtohpcfhgbgfblaaGreatDoor

namespace Go.Proofs.YtohpcfhgbgfblaaGreatDoor
open Go.RowKit
open Sx (Ab DW Turns Did Foot z128)
set_option maxRecDepth 100000

theorem rowL_ok (A : Ab) (at_ : Int) : ∀ (k i : Nat) (b : List Nat), (rowL A at_ k i b).ok = true → at_ + i < (rowL A at_ k i b).nx ∧ (rowL A at_ k i b).nx ≤ at_ + i + k := by
  intro k
  induction k with
  | zero => intro i b h; cases h
  | succ k ih =>
    intro i b h
    rw [rowL] at h ⊢
    cases hs : A.see (at_ + i) with
    | none => rw [hs] at h; cases h
    | some l =>
      rw [hs] at h
      simp only at h ⊢
      split at h
      · cases h
      · rename_i h1
        rw [if_neg h1]
        split at h
        · rename_i h2
          rw [if_pos h2]
          exact ⟨by simp only; omega, by simp only; omega⟩
        · rename_i h2
          rw [if_neg h2]
          split at h
          · cases h
          · rename_i h3
            rw [if_neg h3]
            have := ih (i + 1) _ h
            omega
theorem rowA_ok {A : Ab} {at_ end_ : Int} (h : (rowA A at_ end_).ok = true) : at_ < (rowA A at_ end_).nx ∧ (rowA A at_ end_).nx ≤ end_ := by
  unfold rowA at *
  have := rowL_ok A at_ _ _ _ h
  omega
/-- The rows from a place on, and where they end. -/
def rowsL (A : Ab) (end_ : Int) : Nat → Int → List (Int × List Nat) × Int
  | 0, at_ => ([], at_)
  | k + 1, at_ => if (rowA A at_ end_).ok then (((rowA A at_ end_).kind, (rowA A at_ end_).bs) :: (rowsL A end_ k (rowA A at_ end_).nx).1, (rowsL A end_ k (rowA A at_ end_).nx).2) else ([], at_)
def rowsE (A : Ab) (first : Int) : List (Int × List Nat) × Int := rowsL A (first + 256) 255 (first + 1)
/-- Is there a row behind the end? -/
def spoilt (A : Ab) (at_ end_ : Int) : Bool := (List.range (end_ - at_ - 1).toNat).any fun k => (rowA A (at_ + 1 + k) end_).ok
def RetRows (F : Foot) (w : World) (dv : Value) (A : Ab) (first : Int) : Ending → World → Prop := fun e w' => ∃ F', DW w' F' dv A ∧ TB F w F' w' ∧
  if spoilt A (rowsE A first).2 (first + 256) = true then e = .returned (.tuple #[.slice none 0 0, .int .i64 0, .bool false])
  else ∃ v L, e = .returned (.tuple #[v, .int .i64 (rowsE A first).2, .bool true]) ∧ FrW w' F' w.heap.size v L ∧ told L = (rowsE A first).1
theorem told_push (L : List Fm) (f : Fm) : told (L ++ [f]) = told L ++ [(f.kind, f.body)] := by simp [told]
set_option maxHeartbeats 2000000 in
theorem Rows_any {w : World} {F : Foot} {dv : Value} {A : Ab} (H : DW w F dv A) (hA : Ab.Sm A) {first : Int} (hf : first = 0 ∨ first = 256) : Calls Tryz.prog 64 #[dv, .int .i64 first] w (RetRows F w dv A first) := by
  have e1 : wrap64 (first + 1) = first + 1 := IntWalk.wrap64_in _ (by omega)
  have e2 : wrap64 (first + 256) = first + 256 := IntWalk.wrap64_in _ (by omega)
  obtain ⟨end_, hend⟩ : ∃ end_ : Int, first + 256 = end_ := ⟨_, rfl⟩
  have hE : rowsE A first = rowsL A end_ 255 (first + 1) := by unfold rowsE; rw [hend]
  have HE := Lib.hid hE
  have HEnd := Lib.hid hend
  clear hE
  go_enter Tryz.func64, Tryz.ntmps64
  go_wp2
  have hH := Lib.hid H
  clear H hend
  go_loopw [7, 8] (fun v7 v8 wr => ∃ (m : Nat) (L : List Fm) (at_ : Int) (F1 : Foot), first + 1 ≤ at_ ∧ at_ ≤ end_ ∧ end_ - at_ ≤ m ∧ v8 = .int .i64 at_ ∧ DW wr F1 dv A ∧ TB F w F1 wr ∧ FrW wr F1 w.heap.size v7 L ∧ told L ++ (rowsL A end_ m at_).1 = (rowsE A first).1 ∧ (rowsL A end_ m at_).2 = (rowsE A first).2 ∧
      L.length + first + 1 ≤ at_) (fun _ v8 _ => (end_ - intOf v8).toNat)
  case atStart => exact ⟨255, [], first + 1, F, Int.le_refl _, by have := HEnd.out; omega, by have := HEnd.out; omega, rfl, hH.out, TB.refl F w, FrW.nil w F _, by rw [HE.out]; rfl, by rw [HE.out], by simp⟩
  case round =>
    obtain ⟨m, L, at_, F1, h1, h2, h3, rfl, hd, ht, hfr, hr1, hr2, hll⟩ := hrel
    have hend := HEnd.out
    have R := Lib.hid (Row_read hd hA (at_ := at_) (end_ := end_) (by omega) (by omega) (by omega))
    have HT := Lib.hid ht
    have HFr := Lib.hid hfr
    have hz := ht.t.size
    have HR1 := Lib.hid hr1
    have HR2 := Lib.hid hr2
    obtain ⟨a7, c7, rfl⟩ := own_form hfr.fr.row
    clear hd ht hfr hr1 hr2
    cases hok : (rowA A at_ end_).ok with
    | true =>
      have hnx := rowA_ok hok
      obtain ⟨m, rfl⟩ : ∃ q, m = q + 1 := ⟨m - 1, by omega⟩
      have q1 : told L ++ ((rowA A at_ end_).kind, (rowA A at_ end_).bs) :: (rowsL A end_ m (rowA A at_ end_).nx).1 = (rowsE A first).1 := by rw [← HR1.out, rowsL, if_pos hok]
      have q2 : (rowsL A end_ m (rowA A at_ end_).nx).2 = (rowsE A first).2 := by rw [← HR2.out, rowsL, if_pos hok]
      generalize rowA A at_ end_ = rw_ at *
      obtain ⟨kd, bs, nx, ok⟩ := rw_
      obtain rfl : ok = true := hok
      have Q1 := Lib.hid q1
      have Q2 := Lib.hid q2
      simp only at hnx
      obtain ⟨n1, n2⟩ := hnx
      clear q1 q2 HR1 HR2
      go_wp2_with (first
        | (go_at_call 125; refine R.out.mono ?_; rintro _ w1 ⟨F2, a1, c1, rfl, d2, t2, own2, cl2⟩; have T2 := Lib.hid (HT.out.trans t2); have F2' := Lib.hid (HFr.out.tb t2); have hnb : ((w1.alloc (.cells #[.int .i64 kd, .slice a1 bs.length c1] 82)).alloc (.cells #[.int .i64 kd, .slice a1 bs.length c1] 82)).heap[w1.heap.size + 1]? = some (.cells #[.int .i64 kd, .slice a1 bs.length c1] 82) := (by have := heap_alloc_new (w1.alloc (.cells #[.int .i64 kd, .slice a1 bs.length c1] 82)) (.cells #[.int .i64 kd, .slice a1 bs.length c1] 82); simpa using this); have bb := (below1 w1 (.cells #[.int .i64 kd, .slice a1 bs.length c1] 82)).alloc (by simp) (.cells #[.int .i64 kd, .slice a1 bs.length c1] 82); have hFx := F2'.out.keep (Nat.le_refl _) bb; have hbx := Lib.hid (own_keep own2 (Nat.le_refl _) bb); have D2 := Lib.hid (d2.below bb); have T2b := Lib.hid (T2.out.below bb); have CL2 := Lib.hid cl2; have hz1 := t2.t.size; clear d2 t2 own2 cl2)
        | (at_builtin; refine wp_app_at elemF rfl _ _ rfl (B := w.heap.size) rfl hFx.fr.row rfl (news := (Fm.mk kd bs a1 c1).cells) rfl (World.news_of_block hnb) (by intro u hu; simp only [Fm.cells, List.mem_cons, List.not_mem_nil, or_false] at hu; rcases hu with rfl | rfl <;> rfl) (by decide) (by omega) (by simp; omega) ?_))
      intro g2 cap2 w2 hown2 hgr hat hlt2
      have hap : ∀ k, (Fm.mk kd bs a1 c1).val.ownBlock = some k → (Value.slice a7 L.length c7).ownBlock ≠ some k := fun k hk e => by
        have t1 := (hbx.out.lt k hk).1
        have t2 := (HFr.out.fr.row.lt k e).2
        omega
      have hg := grew D2.out T2b.out hFx.fr.row hFx.clear hgr (hat.elim .inl fun h => .inr (by simpa using h)) (v' := .slice (some ⟨g2, 0, none⟩) (L.length + 1) cap2) rfl
      have hF3 : FrW w2 F2 w.heap.size (.slice (some ⟨g2, 0, none⟩) (L.length + 1) cap2) (L ++ [⟨kd, bs, a1, c1⟩]) := by
        refine ⟨hFx.fr.grown (own_base hbx.out (by omega)) hap hown2 hgr (hat.elim .inl fun h => .inr (by simpa using h)), hg.clear, fun f hf k hk => ?_⟩
        rcases List.mem_append.1 hf with h | h
        · exact hFx.bclear f h k hk
        · rw [List.mem_singleton] at h
          subst h
          exact CL2.out k hk
      have ht3 : told (L ++ [⟨kd, bs, a1, c1⟩]) ++ (rowsL A end_ m nx).1 = (rowsE A first).1 := by
        rw [told_push, List.append_assoc]
        exact Q1.out
      have F3 := Lib.hid hF3
      have T3 := Lib.hid ht3
      have hg' := Lib.hid hg
      clear hgr hown2 hFx hbx bb hnb hat hap hF3 ht3 hg
      go_wp2
      go_roundw
      case rel => exact ⟨m, L ++ [⟨kd, bs, a1, c1⟩], nx, F2, by omega, by omega, by omega, rfl, hg'.out.dw, hg'.out.tb, by simpa using F3.out, T3.out, Q2.out, by simp; omega⟩
      case measure => simp [intOf]; omega
    | false =>
      have q1 : told L = (rowsE A first).1 := by
        rw [← HR1.out]
        cases m with
        | zero => rw [rowsL, List.append_nil]
        | succ m => rw [rowsL, hok]; simp
      have q2 : at_ = (rowsE A first).2 := by
        rw [← HR2.out]
        cases m with
        | zero => rw [rowsL]
        | succ m => rw [rowsL, hok]; simp
      have Q1 := Lib.hid q1
      have Q2 := Lib.hid q2
      clear q1 q2 HR1 HR2
      have ea : wrap64 (at_ + 1) = at_ + 1 := IntWalk.wrap64_in _ (by omega)
      generalize rowA A at_ end_ = rw_ at *
      obtain ⟨kd, bs, nx, ok⟩ := rw_
      obtain rfl : ok = false := hok
      go_wp2_with (go_at_call 125; refine R.out.mono ?_; rintro _ w1 ⟨F2, a1, c1, rfl, d2, t2, own2, cl2⟩; have bb := below1 w1 (.cells #[.int .i64 kd, .slice a1 bs.length c1] 82); have D2 := Lib.hid (d2.below bb); have T2 := Lib.hid ((HT.out.trans t2).below bb); have F2' := Lib.hid ((HFr.out.tb t2).keep (Nat.le_refl _) bb); clear d2 t2 own2 cl2 bb)
      generalize w1.alloc (.cells #[.int .i64 kd, .slice a1 bs.length c1] 82) = w2 at *
      have hc : spoilt A (rowsE A first).2 (first + 256) = spoilt A at_ end_ := by rw [← Q2.out, hend]
      have HC := Lib.hid hc
      obtain ⟨K, hK⟩ : ∃ K : Nat, (end_ - at_ - 1).toNat = K := ⟨_, rfl⟩
      clear hc
      go_wp2
      go_loopw [13] (fun v13 wr => ∃ (k : Nat) (F1 : Foot), k ≤ K ∧ v13 = .int .i64 (at_ + 1 + k) ∧ DW wr F1 dv A ∧ TB F w F1 wr ∧ FrW wr F1 w.heap.size (.slice a7 L.length c7) L ∧ ∀ j, j < k → (rowA A (at_ + 1 + (j : Nat)) end_).ok = false) (fun v13 _ => (end_ - intOf v13).toNat)
      case atStart => exact ⟨0, F2, Nat.zero_le _, by simp, D2.out, T2.out, F2'.out, fun j h => absurd h (Nat.not_lt_zero j)⟩
      case round =>
        obtain ⟨k, F1, hk, rfl, hd1, ht1, hf1, hn1⟩ := hrel
        have HT2 := Lib.hid ht1
        have HF1 := Lib.hid hf1
        have HN := Lib.hid hn1
        by_cases hlt : k < K
        · have hlt2 : at_ + 1 + k < end_ := by omega
          have R := Lib.hid (Row_read hd1 hA (at_ := at_ + 1 + k) (end_ := end_) (by omega) (by omega) (by omega))
          have es : wrap64 (at_ + 1 + k + 1) = at_ + 1 + k + 1 := IntWalk.wrap64_in _ (by omega)
          clear hd1 ht1 hf1 hn1
          cases hok2 : (rowA A (at_ + 1 + k) end_).ok with
          | true =>
            have hsp : spoilt A at_ end_ = true := by
              unfold spoilt
              rw [List.any_eq_true]
              exact ⟨k, List.mem_range.2 (by omega), hok2⟩
            have HS := Lib.hid (HC.out.trans hsp)
            clear hsp
            generalize rowA A (at_ + 1 + k) end_ = rw2 at *
            obtain ⟨kd2, bs2, nx2, ok2⟩ := rw2
            obtain rfl : ok2 = true := hok2
            go_wp2_with (go_at_call 125; refine R.out.mono ?_; rintro _ w3 ⟨F3, a3, c3, rfl, d3, t3, own3, cl3⟩; have bb := below1 w3 (.cells #[.int .i64 kd2, .slice a3 bs2.length c3] 82); have D3 := Lib.hid (d3.below bb); have T3 := Lib.hid ((HT2.out.trans t3).below bb); clear d3 t3 own3 cl3 bb)
            refine bodyPost_ret (results_tmp3 rfl _ _ _) rfl ?_
            exact ⟨F3, D3.out, T3.out, by rw [if_pos HS.out]; rfl⟩
          | false =>
            have HK := Lib.hid hok2
            generalize rowA A (at_ + 1 + k) end_ = rw2 at R hok2
            obtain ⟨kd2, bs2, nx2, ok2⟩ := rw2
            obtain rfl : ok2 = false := hok2
            go_wp2_with (go_at_call 125; refine R.out.mono ?_; rintro _ w3 ⟨F3, a3, c3, rfl, d3, t3, own3, cl3⟩; have bb := below1 w3 (.cells #[.int .i64 kd2, .slice a3 bs2.length c3] 82); have D3 := Lib.hid (d3.below bb); have T3 := Lib.hid ((HT2.out.trans t3).below bb); have F3' := Lib.hid ((HF1.out.tb t3).keep (Nat.le_refl _) bb); clear d3 t3 own3 cl3 bb)
            go_roundw
            case rel => exact ⟨k + 1, F3, by omega, by go_num, D3.out, T3.out, F3'.out, fun j hj => by
              rcases Nat.lt_or_ge j k with h | h
              · exact HN.out j h
              · obtain rfl : j = k := by omega
                exact HK.out⟩
            case measure => simp [intOf]; omega
        · obtain rfl : k = K := by omega
          have hlt2 : ¬ at_ + 1 + k < end_ := by omega
          have hsp : spoilt A at_ end_ = false := by
            unfold spoilt
            rw [List.any_eq_false]
            intro q hq
            rw [HN.out q (by have := List.mem_range.1 hq; omega)]
            decide
          have HS := Lib.hid (HC.out.trans hsp)
          have H1 := Lib.hid hd1
          clear hsp hd1 ht1 hf1 hn1
          go_wp2
          refine bodyPost_ret (results_tmp3 rfl _ _ _) rfl ?_
          refine ⟨F1, H1.out, HT2.out, ?_⟩
          rw [if_neg (by rw [HS.out]; decide)]
          exact ⟨_, L, by rw [Q2.out]; rfl, HF1.out, Q1.out⟩
end Go.Proofs.YtohpcfhgbgfblaaGreatDoor
