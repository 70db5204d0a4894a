/- What is proved: the journal's Compact. No condition but those each law names. -/
import Derived.Test.YtaigdbnfhehclaaKG
import Derived.Test.YtaigdbnfhehclaaQB
import Derived.Deep.RegionHeld3
import Derived.Deep.AppendLies
import Derived.Deep.DeepCutAuto
namespace Go.Proofs.Ytaigdbnfhehclaa
open Go.RowKit
open Sx (Ab DW Turns Did Foot z128)
set_option maxRecDepth 100000

/-- The pieces of rows, one behind the other; why a row is none. -/
def allP (R : List (Int × List Nat)) : List (List Nat) := R.flatMap fun r => pcs (laidL r.1 r.2)
def compE0 : List (Int × List Nat) → Int
  | [] => 0
  | r :: R => if laidE r.1 r.2.length = 0 then compE0 R else laidE r.1 r.2.length
theorem allP_append (R S : List (Int × List Nat)) : allP (R ++ S) = allP R ++ allP S := by simp [allP]
theorem allP_one (r : Int × List Nat) : allP [r] = pcs (laidL r.1 r.2) := by simp [allP]
theorem allP_len (R : List (Int × List Nat)) : (allP R).length ≤ 4 * R.length := by
  induction R with
  | nil => exact Nat.le_refl _
  | cons r R ih =>
    have e : allP (r :: R) = pcs (laidL r.1 r.2) ++ allP R := rfl
    have := laidL_len r.1 r.2
    rw [e, List.length_append, List.length_cons, pcs_length]
    unfold npc
    omega
theorem allP_128 {R : List (Int × List Nat)} {p : List Nat} (h : p ∈ allP R) : p.length ≤ 128 := by
  unfold allP at h
  obtain ⟨r, _, hp⟩ := List.mem_flatMap.1 h
  exact pcs_128 hp
theorem compE0_take {R : List (Int × List Nat)} {i : Nat} {r : Int × List Nat} (h : ∀ q ∈ R.take i, laidE q.1 q.2.length = 0) (hr : R[i]? = some r) (he : laidE r.1 r.2.length ≠ 0) : compE0 R = laidE r.1 r.2.length := by
  induction R generalizing i with
  | nil => simp at hr
  | cons q R ih =>
    cases i with
    | zero => cases hr; exact if_neg he
    | succ i =>
      have h0 := h q (by simp)
      show (if laidE q.1 q.2.length = 0 then compE0 R else _) = _
      rw [if_pos h0]
      exact ih (i := i) (fun x hx => h x (by rw [List.take_succ_cons]; exact List.mem_cons_of_mem _ hx)) (by simpa using hr)
theorem compE0_all {R : List (Int × List Nat)} (h : ∀ q ∈ R, laidE q.1 q.2.length = 0) : compE0 R = 0 := by
  induction R with
  | nil => rfl
  | cons q R ih =>
    show (if laidE q.1 q.2.length = 0 then compE0 R else _) = _
    rw [if_pos (h q (by simp))]
    exact ih fun x hx => h x (by simp [hx])
/-- What Compact does: noughts behind the pieces; then the head. -/
def fillP (ps : List (List Nat)) : List (List Nat) := ps ++ List.replicate (255 - ps.length) []
def compL (j : Jr) (R : List (Int × List Nat)) : List Stp := wrs (256 - j.first + 1) (fillP (allP R)) ++ [.sy, .wr (256 - j.first) (headL (j.turn + 1).toNat), .sy]
def compE (A : Ab) (j : Jr) (R : List (Int × List Nat)) : Int :=
  if (j.dead || A.off) = true then 9 else if compE0 R ≠ 0 then compE0 R else if 255 < (allP R).length then 8 else stpsE (compL j R) A
def compA (A : Ab) (j : Jr) (R : List (Int × List Nat)) : Ab :=
  if (j.dead || A.off) = true then A else if compE0 R ≠ 0 then A else if 255 < (allP R).length then A else stpsA (compL j R) A
def compJ (A : Ab) (j : Jr) (R : List (Int × List Nat)) : Jr :=
  if (j.dead || A.off) = true then { j with dead := true } else if compE0 R ≠ 0 then j else if 255 < (allP R).length then j
  else if stpsE (compL j R) A = 0 then ⟨256 - j.first, 256 - j.first + 1 + (allP R).length, j.turn + 1, false⟩ else { j with dead := true }
theorem fillP_len {ps : List (List Nat)} (h : ps.length ≤ 255) : (fillP ps).length = 255 := by unfold fillP; rw [List.length_append, List.length_replicate]; omega
theorem fillP_128 {ps : List (List Nat)} (h : ∀ p ∈ ps, p.length ≤ 128) {p : List Nat} (hp : p ∈ fillP ps) : p.length ≤ 128 := by
  rcases List.mem_append.1 hp with h1 | h1
  · exact h p h1
  · rw [List.eq_of_mem_replicate h1]; decide
theorem PcsAt.app {w : World} {B : Nat} {vs us : List Value} {ps qs : List (List Nat)} (h : PcsAt w B vs ps) (h' : PcsAt w B us qs) : PcsAt w B (vs ++ us) (ps ++ qs) := by
  refine ⟨by rw [List.length_append, List.length_append, h.1, h'.1], fun i v p h1 h2 => ?_⟩
  by_cases hlt : i < vs.length
  · rw [List.getElem?_append_left hlt] at h1
    rw [List.getElem?_append_left (by rw [← h.1]; exact hlt)] at h2
    exact h.2 i v p h1 h2
  · rw [List.getElem?_append_right (by omega)] at h1
    rw [List.getElem?_append_right (by rw [← h.1]; omega), ← h.1] at h2
    exact h'.2 _ v p h1 h2
theorem PcsAt.grown {w w' : World} {B B' m : Nat} {v : Value} {vs ys : List Value} {ps : List (List Nat)} (h : PcsAt w B vs ps) (hgr : w.grownBy w' v.ownBlock) (hv : w.ownsRow B' 32 1 v m ys) : PcsAt w' B vs ps :=
  ⟨h.1, fun i u p h1 h2 => own_apartk (h.2 i u p h1 h2) hgr hv (by decide)⟩
theorem PcsAt.base {w : World} {B B' : Nat} {vs : List Value} {ps : List (List Nat)} (h : PcsAt w B vs ps) (hB : B' ≤ B) : PcsAt w B' vs ps := ⟨h.1, fun i u p h1 h2 => own_base (h.2 i u p h1 h2) hB⟩
theorem PcsAt.nils (w : World) (B k : Nat) : PcsAt w B (List.replicate k (.slice none 0 0)) (List.replicate k []) := by
  refine ⟨by simp, fun i v p h1 h2 => ?_⟩
  have e1 := List.eq_of_mem_replicate (List.mem_of_getElem? h1)
  have e2 := List.eq_of_mem_replicate (List.mem_of_getElem? h2)
  subst e1 e2
  exact World.ownsRow_nil _ _ _ _
theorem laid_pos {kind : Int} {l : List Nat} (h : laidE kind l.length = 0) : 0 < npc (laidL kind l) := by
  unfold laidE at h
  split at h
  · cases h
  · rename_i hk
    unfold laidL putL npc
    rw [if_neg hk, if_pos h, fr_length]
    omega
theorem told_get {L : List Fm} {i : Nat} {f : Fm} (h : L[i]? = some f) : (told L)[i]? = some (f.kind, f.body) := by unfold told; rw [List.getElem?_map, h]; rfl
theorem step_app_at {P : Program} {t e : TypeId} {size : Nat} (E : Elem P t e size) {ops : Array Oper} {o : Oper} {a : Act} {w : World} {K : Act → World → Prop} {Q : Exit → Act → World → Prop} {X : Prop} (hgd : o.guard = none) (s x : Operand)
    (ho : o.op = .call { callee := .builtin .append, args := #[s, x], argTypes := #[t, t] })
    {B : Nat} {v : Value} {n : Nat} {xs : List Value} (hs : a.eval s = v) (hown : w.ownsRow B e size v n xs)
    {ad : Addr} {m c : Nat} {news : List Value} (hx : a.eval x = .slice (some ad) m c) (hl : news.length = m * size)
    (hnews : ∀ (j : Nat) u, news[j]? = some u → w.cell? (ad.add j) = some u) (h1 : ∀ u ∈ news, u.oneCell' = true)
    (hm : 0 < m) (h63 : n + m ≤ 1099511627776) (hB : B ≤ w.heap.size)
    (h : ∀ g cap w', w'.ownsRow B e size (.slice (some ⟨g, 0, none⟩) (n + m) cap) (n + m) (xs ++ news) → w.grownBy w' v.ownBlock → (v.ownBlock = some g ∨ g = w.heap.size) → g < w'.heap.size → K (a.put o.dst (.slice (some ⟨g, 0, none⟩) (n + m) cap)) w') :
    if Region.wanted o (yielded ops a.tmps) = true then Oper.wp P o a w K Q else X := by
  obtain ⟨hu, hpos, i, z, hi, hz, hsz, hby, hzs⟩ := E
  refine step_append_lies w hgd s x t ho B e i z size i.bytes hu hi hz hsz rfl hzs hpos v n xs hs hown ad m c news hx hl hnews h1 hm (by simp only [maxLen]; omega) ?_ hB w.heap.size rfl h
  calc (n + m) * i.bytes ≤ 1099511627776 * 64 := Nat.mul_le_mul h63 hby
    _ ≤ 140737488355328 := by decide
/-- The closure that writes a sector, as a step in every world that keeps the blocks from M on. -/
theorem Write_from {w : World} {F : Foot} {dv : Value} {A : Ab} {b : Nat} {j : Jr} (h : JD w F dv A b j) {i : Int} (hi : 0 ≤ i ∧ i < 512) {ao : Option Addr} {n c : Nat} {l : List Nat} (hn : n ≤ 128) (hs : Sl w ao n c (bts l)) {M : Nat} (hM : M ≤ w.heap.size)
    (hap : ∀ k o, ao = some ⟨k, o, none⟩ → M ≤ k ∧ k < w.heap.size ∧ k ≠ b ∧ ∀ x, ¬ F k x) :
    Calls Try.prog 28 #[.pointer (some ⟨b, 0, none⟩), .int .i64 i, .slice ao n c] w fun e w' => ∃ b1 b2 b3, e = .returned (.func (.func 46) #[] #[.pointer (some ⟨b1, 0, none⟩), .pointer (some ⟨b2, 0, none⟩), .pointer (some ⟨b3, 0, none⟩)]) ∧ Below w.heap.size w w' ∧
      ∀ w'' : World, (∀ k, M ≤ k → k < w'.heap.size → w''.heap[k]? = w'.heap[k]?) → w'.heap.size ≤ w''.heap.size →
        StpAt w'' F b dv w'.heap.size (.func (.func 46) #[] #[.pointer (some ⟨b1, 0, none⟩), .pointer (some ⟨b2, 0, none⟩), .pointer (some ⟨b3, 0, none⟩)]) (.wr i l) := by
  refine (Write_fn w b i ao n c).mono ?_
  rintro _ _ ⟨rfl, rfl⟩
  have hb : Below w.heap.size w (((w.alloc (.cells #[.pointer (some ⟨b, 0, none⟩)] 25)).alloc (.cells #[.int .i64 i] 3)).alloc (.cells #[.slice ao n c] 32)) :=
    (((Below.refl _ w).alloc (Nat.le_refl _) _).alloc (by simp) _).alloc (by simp only [World.size_alloc]; omega) _
  have hlt := h.lt
  have hf : ∀ k, w.heap.size ≤ k → ∀ x, ¬ F k x := fun k hk x hx => absurd (h.dw.lt hx) (by omega)
  refine ⟨w.heap.size, w.heap.size + 1, w.heap.size + 1 + 1, rfl, hb, fun w'' hk hz => ⟨w.heap.size, w.heap.size + 1, w.heap.size + 1 + 1, ao, n, c, rfl, ?_, ?_, ?_, ?_, hi.1, hi.2, hn, ?_, fun k o e => ?_⟩⟩
  · rw [hk _ hM (by simp only [World.size_alloc]; omega)]; exact box_old (box_old (box_heap w _ _ rfl) _) _
  · rw [hk _ (by omega) (by simp only [World.size_alloc]; omega)]; exact box_old (box_heap _ _ _ (World.size_alloc _ _)) _
  · rw [hk _ (by omega) (by simp only [World.size_alloc]; omega)]; exact box_heap _ _ _ (by rw [World.size_alloc, World.size_alloc])
  · rintro k (rfl | rfl | rfl)
    · exact ⟨by omega, hf _ (Nat.le_refl _)⟩
    · exact ⟨by omega, hf _ (by omega)⟩
    · exact ⟨by omega, hf _ (by omega)⟩
  · exact sl_same (hs.keep (Nat.le_refl _) hb) fun k o e hlt2 => hk k (hap k o e).1 hlt2
  · obtain ⟨a0, a1, a2, a3⟩ := hap k o e
    have := hb.size
    exact ⟨by omega, by omega, a2, a3⟩
/-- All steps, laid. -/
def Laid3 (F : Foot) (dv : Value) (A : Ab) (b : Nat) (j : Jr) (LL : List Stp) (w0 : World) (y : Value) (w' : World) : Prop := ∃ g cap, y = .slice (some ⟨g, 0, none⟩) 258 cap ∧ StpsAt w' F b dv y LL ∧ JD w' F dv A b j ∧ Went F b w0 F w'
theorem stps3 {w0 wr w8 w9 w10 : World} {F : Foot} {b : Nat} {dv : Value} {us : List Value} {v u : Value} {g cap : Nat} {W : List Stp} {s : Stp} (hwl : W.length = 255)
    (hst : ∀ (k : Nat) s, (W.take 255)[k]? = some s → ∃ u, us[k]? = some u ∧ StpAt wr F b dv w0.heap.size u s) (hb0 : Below w0.heap.size w0 wr) (hown : wr.ownsRow w0.heap.size 37 1 v 255 us) (hb8 : Below wr.heap.size wr w8) (hb9 : Below w8.heap.size w8 w9)
    (hown9 : w9.ownsRow w0.heap.size 37 1 v 255 us)
    (hst8 : ∀ w'' : World, (∀ k, wr.heap.size ≤ k → k < w8.heap.size → w''.heap[k]? = w8.heap[k]?) → w8.heap.size ≤ w''.heap.size → StpAt w'' F b dv w8.heap.size u s)
    (hown10 : w10.ownsRow w0.heap.size 37 1 (.slice (some ⟨g, 0, none⟩) 258 cap) 258 (us ++ [.func (.func 14) #[dv] #[], u, .func (.func 14) #[dv] #[]])) (hgr : w9.grownBy w10 v.ownBlock) (hk : ∀ k, w0.heap.size ≤ k → k ≠ b ∧ ∀ x, ¬ F k x) :
    StpsAt w10 F b dv (.slice (some ⟨g, 0, none⟩) 258 cap) (W ++ [.sy, s, .sy]) ∧ Went F b w0 F w10 := by
  have hul : us.length = 255 := by have := hown.1; omega
  have hb89 : Below wr.heap.size wr w9 := hb8.trans (hb9.mono hb8.size)
  refine ⟨⟨⟨w0.heap.size, _, by rw [List.length_append, hwl]; exact hown10, fun k t ht => ?_⟩, fun k hk2 => hk k (own_block hown10 k hk2)⟩, (Went.of_below (hb0.trans (hb89.mono hb0.size))).grown hgr (own_block hown9)⟩
  by_cases h1 : k < 255
  · rw [List.getElem?_append_left (by omega)] at ht
    obtain ⟨y, t1, t2⟩ := hst k t (by rw [List.getElem?_take_of_lt h1]; exact ht)
    exact ⟨y, by rw [List.getElem?_append_left (by omega)]; exact t1, _, (t2.went (Went.of_below hb89)).apart hgr hown9 (Nat.le_refl _)⟩
  · rw [List.getElem?_append_right (by omega), hwl] at ht
    rw [List.getElem?_append_right (by omega), hul]
    have hk3 : k - 255 < 3 := by
      have := (List.getElem?_eq_some_iff.1 ht).1
      simpa using this
    generalize k - 255 = q at *
    match q, ht with
    | 0, ht => cases ht; exact ⟨_, rfl, 0, rfl⟩
    | 1, ht =>
      cases ht
      refine ⟨_, rfl, _, hst8 w10 (fun k hk1 hk2 => ?_) (Nat.le_trans hb9.size hgr.size)⟩
      rw [← hb9.block k hk2]
      exact hgr.block k (Nat.lt_of_lt_of_le hk2 hb9.size) fun e => absurd (hown.lt k e.symm).2 (by omega)
    | 2, ht => cases ht; exact ⟨_, rfl, 0, rfl⟩
set_option maxHeartbeats 8000000 in
theorem Compact_any {w : World} {F : Foot} {dv : Value} {A : Ab} {b : Nat} {j : Jr} (h : JD w F dv A b j) (hj : j.Ok) (ht0 : 0 ≤ j.turn) (htm : j.turn < 4611686018427387904) {ao : Option Addr} {n c : Nat} {L : List Fm} (hf : FrA w (Fb F b) ao n c L) (hfl : ∀ k o, ao = some ⟨k, o, none⟩ → k < w.heap.size)
    (hbl : ∀ f ∈ L, ∀ k o, f.ao = some ⟨k, o, none⟩ → k < w.heap.size) (hs : ∀ f ∈ L, Small f.body ∧ f.body.length < 1099511627776) (hn : n ≤ 100000) :
    Calls Try.prog 21 #[.pointer (some ⟨b, 0, none⟩), .slice ao n c] w (JDid F w dv b (compA A j (told L)) (compJ A j (told L)) (.int .i64 (compE A j (told L)))) := by
  obtain ⟨jf, jlo, jhi⟩ := hj
  obtain ⟨db, dof, rfl⟩ := dw_form h.dw
  have H := Lib.hid h
  have HF := Lib.hid hf
  have HFL := Lib.hid hfl
  have HBL := Lib.hid hbl
  have HS := Lib.hid hs
  have hln : L.length = n := hf.rd.len
  clear h hf hfl hbl hs
  by_cases hg : (j.dead || A.off) = true
  · have e1 : compE A j (told L) = 9 := if_pos hg
    have e2 : compA A j (told L) = A := if_pos hg
    have e3 : compJ A j (told L) = { j with dead := true } := if_pos hg
    rw [e1, e2, e3]
    clear e1 e2 e3
    go_enter Try.func21, Try.ntmps21
    go_wp2_with (go_at_call 32; refine (Gone_any H.out).mono ?_; rintro _ w1 ⟨rfl, F1, h1, hw1⟩; rw [hg] at h1 ⊢)
    go_ret
    exact ⟨rfl, F1, h1, hw1⟩
  · have hg : (j.dead || A.off) = false := by simpa using hg
    have hd : j.dead = false := by cases hq : j.dead <;> simp_all
    have e1 : compE A j (told L) = if compE0 (told L) ≠ 0 then compE0 (told L) else if 255 < (allP (told L)).length then 8 else stpsE (compL j (told L)) A := if_neg (by rw [hg]; decide)
    have e2 : compA A j (told L) = if compE0 (told L) ≠ 0 then A else if 255 < (allP (told L)).length then A else stpsA (compL j (told L)) A := if_neg (by rw [hg]; decide)
    have e3 : compJ A j (told L) = if compE0 (told L) ≠ 0 then j else if 255 < (allP (told L)).length then j
        else if stpsE (compL j (told L)) A = 0 then ⟨256 - j.first, 256 - j.first + 1 + (allP (told L)).length, j.turn + 1, false⟩ else { j with dead := true } := if_neg (by rw [hg]; decide)
    have hjj : ({ j with dead := false } : Jr) = j := by rw [← hd]
    have E1 := Lib.hid e1
    have E2 := Lib.hid e2
    have E3 := Lib.hid e3
    clear e1 e2 e3
    go_enter Try.func21, Try.ntmps21
    go_wp2_with (go_at_call 32; refine (Gone_any H.out).mono ?_; rintro _ w1 ⟨rfl, F1, h1, hw1⟩; rw [hg] at h1 ⊢)
    rw [hjj] at h1
    have hf1 := HF.out.tb hw1.tb HFL.out HBL.out
    have hz1 := hw1.size
    have H1 := Lib.hid h1
    have W1 := Lib.hid hw1
    have HF1 := Lib.hid hf1
    have HFL1 := Lib.hid (fun (k o : Nat) (e : ao = some ⟨k, o, none⟩) => Nat.lt_of_lt_of_le (HFL.out k o e) hz1)
    clear h1 hw1 hf1 HF HFL
    go_wp2_with fail
    go_loopw [5, 20] (fun v5 v20 wr => ∃ (i : Nat) (vs : List Value), i ≤ n ∧ v20 = .int .i64 i ∧ Below w1.heap.size w1 wr ∧ wr.ownsRow w1.heap.size 32 1 v5 (allP ((told L).take i)).length vs ∧ PcsAt wr w1.heap.size vs (allP ((told L).take i)) ∧ ∀ q ∈ (told L).take i, laidE q.1 q.2.length = 0) (fun _ v20 _ => n - (intOf v20).toNat)
    case atStart => exact ⟨0, [], Nat.zero_le _, rfl, Below.refl _ _, World.ownsRow_nil _ _ _ _, ⟨rfl, fun i v p h => by simp at h⟩, fun q hq => by simp at hq⟩
    case round =>
      obtain ⟨i, vs, hi, rfl, hb, hown, hps, hok⟩ := hrel
      obtain ⟨ao5, cap5, rfl⟩ := own_form hown
      have hz := hb.size
      have HPS := Lib.hid hps
      have HOK := Lib.hid hok
      have HB := Lib.hid hb
      have hal := allP_len ((told L).take i)
      have htl : (told L).length = n := by simp [told, hln]
      have htkl : ((told L).take i).length ≤ i := List.length_take_le _ _
      by_cases hlt : i < n
      · have hlt2 : (i : Int) < n := by omega
        obtain ⟨f, hf⟩ : ∃ f, L[i]? = some f := ⟨_, List.getElem?_eq_getElem (by omega)⟩
        obtain ⟨bf, of_, rfl, cf0, cf1, sf⟩ := HF1.out.rd.each i f hf
        have hbf := HFL1.out bf of_ rfl
        have c0 : wr.cell? ⟨bf, of_ + i * 2, none⟩ = some (.int .i64 f.kind) := by rw [hb.cell (p := ⟨bf, of_ + i * 2, none⟩) hbf]; exact cf0
        have c1 : wr.cell? ⟨bf, of_ + i * 2 + 1, none⟩ = some f.val := by rw [hb.cell (p := ⟨bf, of_ + i * 2 + 1, none⟩) hbf]; exact cf1
        unfold Fm.val at c1
        have SF := Lib.hid (sf.keep (Nat.le_refl _) hb)
        clear hps hok hb cf0 cf1 sf
        have hfm := List.mem_of_getElem? hf
        have hS := HS.out f hfm
        have hto := told_get hf
        go_wp2_with fail
        have bb := below1 wr (.cells #[.int .i64 f.kind, .slice f.ao f.body.length f.cap] 51)
        refine (Laid_any f.kind (SF.out.keep (Nat.le_refl _) bb) hS.1 hS.2).mono ?_
        rintro _ w3 ⟨v3, vs3, rfl, hb3, hown3, hps3⟩
        have hbx := (Below.refl wr.heap.size wr).alloc (Nat.le_refl _) (.cells #[.int .i64 f.kind, .slice f.ao f.body.length f.cap] 51)
        have hb13 : Below w1.heap.size w1 w3 := (HB.out.trans (hbx.mono hz)).trans (hb3.mono (by simp; omega))
        by_cases he : laidE f.kind f.body.length = 0
        · have hpos := laid_pos he
          obtain ⟨a3, c3, rfl⟩ := own_form hown3
          obtain ⟨g3, o3, e3, hlt3, hcl3⟩ := (Sl.own hown3).at hpos
          cases e3
          have hown5 := own_keep (own_keep hown (Nat.le_refl _) bb) (Nat.le_refl _) hb3
          have hps5 := (HPS.out.keep (Nat.le_refl _) bb).keep (Nat.le_refl _) hb3
          have hps6 := hps3.base (show w1.heap.size ≤ (wr.alloc (.cells #[.int .i64 f.kind, .slice f.ao f.body.length f.cap] 51)).heap.size by simp; omega)
          have hnl : npc (laidL f.kind f.body) ≤ 4 := by have := laidL_len f.kind f.body; unfold npc; omega
          have hvl : vs3.length = npc (laidL f.kind f.body) := by rw [hps3.1, pcs_length]
          have htk : (told L).take (i + 1) = (told L).take i ++ [(f.kind, f.body)] := by rw [List.take_add_one, hto]; rfl
          have hallp : allP ((told L).take (i + 1)) = allP ((told L).take i) ++ pcs (laidL f.kind f.body) := by rw [htk, allP_append, allP_one]
          have hok2 : ∀ q ∈ (told L).take (i + 1), laidE q.1 q.2.length = 0 := fun q hq => by
            rw [htk] at hq
            rcases List.mem_append.1 hq with h | h
            · exact HOK.out q h
            · rw [List.mem_singleton] at h; rw [h]; exact he
          have HOK2 := Lib.hid hok2
          have HALL := Lib.hid hallp
          have hz3 := hb13.size
          rw [he]
          have HPS5 := Lib.hid hps5
          have HPS6 := Lib.hid hps6
          have hone := hps3.one
          clear he hps5 hps6 hps3 hok2 hallp hown3
          go_wp2_with (at_builtin; refine wp_app_at elemP rfl _ _ rfl (B := w1.heap.size) (n := (allP ((told L).take i)).length) (xs := vs) (news := vs3) rfl hown5 rfl (by rw [hvl, Nat.mul_one]) (fun j u hj => by rw [add_plain_addr]; exact hcl3 j u hj) hone hpos (by omega) hz3 ?_)
          intro g5 cap5' w5 hown6 hgr5 hat5 _
          have hps7 := (HPS5.out.grown hgr5 hown5).app (HPS6.out.grown hgr5 hown5)
          rw [← HALL.out] at hps7
          have hlen7 : (allP ((told L).take i)).length + npc (laidL f.kind f.body) = (allP ((told L).take (i + 1))).length := by rw [HALL.out, List.length_append, pcs_length]
          have hb5 : Below w1.heap.size w1 w5 := hb13.trans ((Below.refl _ w3).grown hgr5 hz3 (own_block hown5))
          rw [hlen7] at hown6 ⊢
          have HPS7 := Lib.hid hps7
          clear hgr5 hown5 hcl3 hone hps7 HPS5 HPS6
          go_wp2
          go_roundw
          case rel => exact ⟨i + 1, _, by omega, by go_num, hb5, hown6, HPS7.out, HOK2.out⟩
          case measure => simp [intOf]; omega
        · have hne : (laidE f.kind f.body.length == 0) = false := by rw [beq_eq_false_iff_ne]; exact he
          have q0 := compE0_take HOK.out hto he
          have hc0 : ¬ compE0 (told L) = 0 := by rw [q0]; exact he
          have q1 := Lib.hid ((E1.out.trans (if_pos hc0)).trans q0)
          have q2 := Lib.hid (E2.out.trans (if_pos hc0))
          have q3 := Lib.hid (E3.out.trans (if_pos hc0))
          have HB3 := Lib.hid hb13
          clear q0 hc0 he hown3 hps3 E1 E2 E3 hb13
          simp only at q1
          generalize laidE f.kind f.body.length = er at *
          go_wp2
          go_ret
          refine ⟨?_, F1, ?_, W1.out.trans (Went.of_below HB3.out)⟩
          · rw [q1.out]; rfl
          · rw [q2.out, q3.out]; exact H1.out.below HB3.out
      · obtain rfl : i = n := by omega
        have htk : (told L).take i = told L := by rw [← htl, List.take_length]
        rw [htk] at hok hown hps hal ⊢
        have hc0 : compE0 (told L) = 0 := compE0_all hok
        have E1' := Lib.hid (E1.out.trans (if_neg (by rw [hc0]; simp)))
        have E2' := Lib.hid (E2.out.trans (if_neg (by rw [hc0]; simp)))
        have E3' := Lib.hid (E3.out.trans (if_neg (by rw [hc0]; simp)))
        have hL : compL j (told L) = wrs (256 - j.first + 1) (fillP (allP (told L))) ++ [.sy, .wr (256 - j.first) (headL (j.turn + 1).toNat), .sy] := rfl
        have HL := Lib.hid hL
        have h128 := Lib.hid (fun p (hp : p ∈ allP (told L)) => allP_128 hp)
        clear hc0 hok htk hL HPS HOK E1 E2 E3
        rw [HL.out] at E1' E2' E3'
        generalize allP (told L) = ps at *
        obtain ⟨N, hN⟩ : ∃ N : Nat, ps.length = N := ⟨_, rfl⟩
        rw [hN] at hown hal E1' E2' E3' ⊢
        have hjr := H1.out.below hb
        have c1 : wr.cell? ⟨b, 1, none⟩ = some (.int .i64 j.first) := hjr.cell 1
        by_cases h255 : 255 < N
        · have h255' : (255 : Int) < N := by omega
          have q1 := Lib.hid (E1'.out.trans (if_pos h255))
          have q2 := Lib.hid (E2'.out.trans (if_pos h255))
          have q3 := Lib.hid (E3'.out.trans (if_pos h255))
          clear E1' E2' E3' hps hb
          go_wp2
          go_ret
          refine ⟨?_, F1, ?_, W1.out.trans (Went.of_below HB.out)⟩
          · rw [q1.out]; rfl
          · rw [q2.out, q3.out]; exact H1.out.below HB.out
        · have h255' : ¬ (255 : Int) < N := by omega
          have q1 := Lib.hid (E1'.out.trans (if_neg h255))
          have q2 := Lib.hid (E2'.out.trans (if_neg h255))
          have q3 := Lib.hid (E3'.out.trans (if_neg h255))
          obtain ⟨v6, w6, hr6, hown6, hgr6, hat6⟩ := run_nils_own (k := 255 - N) 69 hown (by omega) (by omega) (by omega) hz
          have ek : ((255 - N : Nat) : Int) = 255 - N := by omega
          rw [ek] at hr6
          have hps6 := (hps.grown hgr6 hown).app (PcsAt.nils w6 w1.heap.size (255 - N))
          have hb6 : Below w1.heap.size w1 w6 := HB.out.trans ((Below.refl _ wr).grown hgr6 hz (own_block hown))
          have hown6' : w6.ownsRow w1.heap.size 32 1 v6 255 (vs ++ List.replicate (255 - N) (.slice none 0 0)) := by rw [show N + (255 - N) = 255 by omega] at hown6; exact hown6
          have hfp : ps ++ List.replicate (255 - N) [] = fillP ps := by unfold fillP; rw [hN]
          rw [hfp] at hps6
          obtain ⟨a6, c6, rfl⟩ := own_form hown6'
          have hq255 : (fillP ps).length = 255 := fillP_len (by omega)
          have hq128 : ∀ p ∈ fillP ps, p.length ≤ 128 := fun p hp => fillP_128 h128.out hp
          have HQ128 := Lib.hid hq128
          have H6 := Lib.hid (H1.out.below hb6)
          have W6 := Lib.hid (W1.out.trans (Went.of_below (F := F1) (b := b) hb6))
          have O6 := Lib.hid hown6'
          have P6 := Lib.hid hps6
          have HD1 := Lib.hid (fun (i x : Nat) (hf : F1 i x) => H1.out.dw.lt hf)
          have hz6 := hb6.size
          have hblt := H1.out.lt
          obtain ⟨ot, hot, hot0, hot2⟩ : ∃ ot : Int, 256 - j.first = ot ∧ 0 ≤ ot ∧ ot ≤ 256 := ⟨256 - j.first, rfl, by omega, by omega⟩
          rw [hot] at q1 q2 q3
          generalize fillP ps = qs at *
          have ew1 : wrap64 (256 - j.first) = ot := by rw [← hot]; exact IntWalk.wrap64_in _ (by omega)
          have ew2 : wrap64 (255 - (N : Int)) = 255 - N := IntWalk.wrap64_in _ (by omega)
          clear E1' E2' E3' hps hb hown6 hgr6 hat6 hfp hown6' hps6 hq128 hown hjr
          go_wp2_with (at_builtin; refine wp_nils (by first | rfl | exact rfl | decide | simp [Region.wanted, yielded]) _ _ rfl _ _ rfl rfl _ _ hr6 ?_)
          clear ew1 ew2 c1
          go_loopw [12, 13, 14, 55] (fun v12 _ _ v55 wr2 => ∃ (i2 : Nat) (us : List Value), i2 ≤ 255 ∧ v55 = .int .i64 i2 ∧ Below w6.heap.size w6 wr2 ∧ wr2.ownsRow w6.heap.size 37 1 v12 i2 us ∧
              ∀ (k : Nat) s, ((wrs (ot + 1) qs).take i2)[k]? = some s → ∃ u, us[k]? = some u ∧ StpAt wr2 F1 b (.pointer (some ⟨db, dof, none⟩)) w6.heap.size u s) (fun _ _ _ v55 _ => 255 - (intOf v55).toNat)
          case atStart => exact ⟨0, [], Nat.zero_le _, rfl, Below.refl _ _, World.ownsRow_nil _ _ _ _, fun k s h => by simp at h⟩
          case round =>
            obtain ⟨i2, us, hi2, rfl, hb2, hown2, hst2⟩ := hrel
            obtain ⟨ao9, cap9, rfl⟩ := own_form hown2
            have hz2 := hb2.size
            have HST := Lib.hid hst2
            have HJR := Lib.hid (H6.out.below hb2)
            by_cases hlt2 : i2 < 255
            · have hlt3 : (i2 : Int) < 255 := by omega
              have hvl : (vs ++ List.replicate (255 - N) (Value.slice none 0 0)).length = 255 := by have := O6.out.1; omega
              obtain ⟨v0, hv0⟩ : ∃ v0, (vs ++ List.replicate (255 - N) (Value.slice none 0 0))[i2]? = some v0 := ⟨_, List.getElem?_eq_getElem (by omega)⟩
              obtain ⟨p, hp⟩ : ∃ p, qs[i2]? = some p := ⟨_, List.getElem?_eq_getElem (by omega)⟩
              have hop := P6.out.2 i2 v0 p hv0 hp
              obtain ⟨a1, c1, rfl⟩ := own_form hop
              have hp128 : p.length ≤ 128 := HQ128.out p (List.mem_of_getElem? hp)
              obtain ⟨bl, ol, rfl, hbl, hcl⟩ := (Sl.own O6.out).at (by omega)
              have hx := (hb2.cell (p := ⟨bl, ol + i2, none⟩) hbl).trans (hcl i2 _ hv0)
              have WS := Lib.hid (Write_stp HJR.out (i := ot + 1 + i2) (by omega) hp128 (Sl.own (own_keep hop (Nat.le_refl _) hb2)) (N := w6.heap.size) (fun k o e => by
                subst e
                obtain ⟨t1, t2⟩ := own_addr hop
                exact ⟨t2, Nat.lt_of_lt_of_le t2 hz2, by omega, fun x hx => absurd (HD1.out k x hx) (by omega)⟩))
              have HOP := Lib.hid hp
              have hadd1 : wrap64 (ot + 1) = ot + 1 := IntWalk.wrap64_in _ (by omega)
              have hadd : wrap64 (ot + 1 + i2) = ot + 1 + i2 := IntWalk.wrap64_in _ (by omega)
              clear hcl hop hp hst2
              go_wp2_with (first
                | (go_at_call 28; refine WS.out.mono ?_; rintro _ w4 ⟨u, rfl, u1, hb4, hst4⟩; obtain ⟨b1, b2, b3, q1', q2', q3', hu, hrest⟩ := id hst4; subst hu; clear hrest; have HS4 := Lib.hid hst4; clear hst4; have hz4 := hb4.size; have hown4 := (own_keep hown2 (Nat.le_refl _) hb4).alloc (.cells #[.func (.func 46) #[] #[.pointer (some ⟨b1, 0, none⟩), .pointer (some ⟨b2, 0, none⟩), .pointer (some ⟨b3, 0, none⟩)]] 37))
                | (at_builtin; refine wp_app_at elemS rfl _ _ rfl (B := w6.heap.size) (n := i2) (xs := us) (news := [.func (.func 46) #[] #[.pointer (some ⟨b1, 0, none⟩), .pointer (some ⟨b2, 0, none⟩), .pointer (some ⟨b3, 0, none⟩)]]) rfl hown4 rfl rfl (fun y z hz => by have := new_cells w4 #[.func (.func 46) #[] #[.pointer (some ⟨b1, 0, none⟩), .pointer (some ⟨b2, 0, none⟩), .pointer (some ⟨b3, 0, none⟩)]] 37 y z hz; rw [add_plain_addr]; exact this) (fun y hy => by rw [List.mem_singleton] at hy; rw [hy]; rfl) (by decide) (by omega) (by simp; omega) ?_))
              intro g5 cap5 w5 hown5 hgr5 _ _
              clear hadd hadd1
              have hb5 : Below w6.heap.size w6 w5 := ((hb2.trans (hb4.mono hz2)).alloc (Nat.le_trans hz2 hz4) _).trans ((Below.refl _ _).grown hgr5 (by simp; omega) (own_block hown4))
              have hst5 : ∀ (k : Nat) s, ((wrs (ot + 1) qs).take (i2 + 1))[k]? = some s → ∃ u, (us ++ [.func (.func 46) #[] #[.pointer (some ⟨b1, 0, none⟩), .pointer (some ⟨b2, 0, none⟩), .pointer (some ⟨b3, 0, none⟩)]])[k]? = some u ∧ StpAt w5 F1 b (.pointer (some ⟨db, dof, none⟩)) w6.heap.size u s := fun k s hs => by
                have hul : us.length = i2 := by have := hown2.1; omega
                have hwl : (wrs (ot + 1) qs).length = 255 := by rw [wrs_length]; exact hq255
                have ht : (wrs (ot + 1) qs).take (i2 + 1) = (wrs (ot + 1) qs).take i2 ++ [.wr (ot + 1 + i2) p] := by rw [List.take_add_one, wrs_get, HOP.out]; rfl
                rw [ht] at hs
                rcases Nat.lt_trichotomy k i2 with h | h | h
                · rw [List.getElem?_append_left (by rw [List.length_take]; omega)] at hs
                  obtain ⟨u, t1, t2⟩ := HST.out k s hs
                  refine ⟨u, by rw [List.getElem?_append_left (by omega)]; exact t1, ?_⟩
                  exact ((t2.went (Went.of_below hb4)).went (Went.of_below ((Below.refl _ w4).alloc (Nat.le_refl _) _))).apart hgr5 hown4 (Nat.le_refl _)
                · subst h
                  rw [List.getElem?_append_right (by rw [List.length_take]; omega), List.length_take, Nat.min_eq_left (by omega), Nat.sub_self] at hs
                  cases hs
                  refine ⟨_, by rw [List.getElem?_append_right (by omega), hul, Nat.sub_self]; rfl, ?_⟩
                  exact (HS4.out.went (Went.of_below ((Below.refl _ w4).alloc (Nat.le_refl _) _))).apart hgr5 hown4 (Nat.le_refl _)
                · rw [List.getElem?_eq_none (by simp; omega)] at hs
                  cases hs
              have HS5 := Lib.hid hst5
              clear hst5 hgr5 hown4 hown2 hb4
              go_wp2
              go_roundw
              case rel => exact ⟨i2 + 1, _, by omega, by go_num, hb5, hown5, HS5.out⟩
              case measure => simp [intOf]; omega
            · obtain rfl : i2 = 255 := by omega
              have hnl3 : ¬ ((255 : Nat) : Int) < 255 := by omega
              have hul : us.length = 255 := by have := hown2.1; omega
              have hwl : (wrs (ot + 1) qs).length = 255 := by rw [wrs_length]; exact hq255
              obtain ⟨T, hT, hTm⟩ : ∃ T : Nat, j.turn + 1 = T ∧ T < 9223372036854775808 := ⟨(j.turn + 1).toNat, by omega, by omega⟩
              have hTn : (j.turn + 1).toNat = T := by omega
              have c0 : wr.cell? ⟨b, 0, none⟩ = some (.pointer (some ⟨db, dof, none⟩)) := HJR.out.cell 0
              have c3 : wr.cell? ⟨b, 3, none⟩ = some (.int .i64 j.turn) := HJR.out.cell 3
              have HKB := Lib.hid (fun (k : Nat) (hk : w6.heap.size ≤ k) => (show k ≠ b ∧ ∀ x, ¬ F1 k x from ⟨by omega, fun x hx => absurd (HD1.out k x hx) (by omega)⟩))
              have HWT := Lib.hid (show IntKind.i64.wrap (T : Int) = (T : Int) by rw [IntKind.wrap_i64]; omega)
              rw [hTn] at q1 q2 q3
              have hotb : 0 ≤ ot ∧ ot < 512 := by omega
              clear hst2 hot hTn
              go_wp2_with fail
              go_cut [12] (fun y wx => Laid3 F1 (.pointer (some ⟨db, dof, none⟩)) A b j (wrs (ot + 1) qs ++ [.sy, .wr ot (headL T), .sy]) w6 y wx)
              case first =>
                go_region_held3 (fun w' => w'.cell? ⟨b, 0, none⟩ = some (.pointer (some ⟨db, dof, none⟩)) ∧ w'.cell? ⟨b, 3, none⟩ = some (.int .i64 j.turn)) (first | exact ⟨c0, c3⟩ | exact ⟨d0, d3⟩ | exact ⟨f0, f3⟩ | exact ⟨g0, g3⟩ | exact ⟨k0, k3⟩)
                  (first
                    | (go_at_call 29; rw [HWT.out]; refine (Head_any T hTm _).mono ?_; rintro _ w7 ⟨ao7, cap7, rfl, hb7, hown7⟩; have hb7' := Lib.hid ((((Below.refl wr.heap.size wr).drew).trans hb7)); have J7 := Lib.hid (HJR.out.below hb7'.out); have d0 : w7.cell? ⟨b, 0, none⟩ = some (.pointer (some ⟨db, dof, none⟩)) := J7.out.cell 0; have d3 : w7.cell? ⟨b, 3, none⟩ = some (.int .i64 j.turn) := J7.out.cell 3; have WS7 := Lib.hid (Write_from J7.out hotb (ao := ao7) (n := 15) (c := cap7) (l := headL T) (by decide) (Sl.own hown7) (M := wr.heap.size) hb7'.out.size (fun k o e => (by subst e; obtain ⟨t1, t2⟩ := own_addr hown7; have t3 : wr.heap.size ≤ k := t1; exact ⟨t3, t2, HKB.out k (Nat.le_trans hz2 t3)⟩))); clear hb7 hown7)
                    | (go_at_call 28; refine WS7.out.mono ?_; rintro _ w8 ⟨b1, b2, b3, rfl, hb8, hst8⟩; have J8 := Lib.hid (J7.out.below hb8); have HB8 := Lib.hid hb8; have HST8 := Lib.hid hst8; have f0 : w8.cell? ⟨b, 0, none⟩ = some (.pointer (some ⟨db, dof, none⟩)) := J8.out.cell 0; have f3 : w8.cell? ⟨b, 3, none⟩ = some (.int .i64 j.turn) := J8.out.cell 3; have hb9 := below1 w8 (.cells #[.func (.func 14) #[.pointer (some ⟨db, dof, none⟩)] #[], .func (.func 46) #[] #[.pointer (some ⟨b1, 0, none⟩), .pointer (some ⟨b2, 0, none⟩), .pointer (some ⟨b3, 0, none⟩)], .func (.func 14) #[.pointer (some ⟨db, dof, none⟩)] #[]] 37); have J9 := Lib.hid (J8.out.below hb9); have HB9 := Lib.hid hb9; have g0 : (w8.alloc (.cells #[.func (.func 14) #[.pointer (some ⟨db, dof, none⟩)] #[], .func (.func 46) #[] #[.pointer (some ⟨b1, 0, none⟩), .pointer (some ⟨b2, 0, none⟩), .pointer (some ⟨b3, 0, none⟩)], .func (.func 14) #[.pointer (some ⟨db, dof, none⟩)] #[]] 37)).cell? ⟨b, 0, none⟩ = some (.pointer (some ⟨db, dof, none⟩)) := J9.out.cell 0; have g3 : (w8.alloc (.cells #[.func (.func 14) #[.pointer (some ⟨db, dof, none⟩)] #[], .func (.func 46) #[] #[.pointer (some ⟨b1, 0, none⟩), .pointer (some ⟨b2, 0, none⟩), .pointer (some ⟨b3, 0, none⟩)], .func (.func 14) #[.pointer (some ⟨db, dof, none⟩)] #[]] 37)).cell? ⟨b, 3, none⟩ = some (.int .i64 j.turn) := J9.out.cell 3; have hz9 := Nat.le_trans hz2 (Nat.le_trans hb7'.out.size (Nat.le_trans hb8.size hb9.size)); have O9 := Lib.hid (own_keep (own_keep (own_keep hown2 (Nat.le_refl _) hb7'.out) (Nat.le_refl _) hb8) (Nat.le_refl _) hb9); clear hb8 hst8 hb9)
                    | (refine step_app_at elemS rfl _ _ rfl (B := w6.heap.size) (n := 255) (xs := us) (news := [.func (.func 14) #[.pointer (some ⟨db, dof, none⟩)] #[], .func (.func 46) #[] #[.pointer (some ⟨b1, 0, none⟩), .pointer (some ⟨b2, 0, none⟩), .pointer (some ⟨b3, 0, none⟩)], .func (.func 14) #[.pointer (some ⟨db, dof, none⟩)] #[]]) rfl O9.out rfl rfl (fun y z hz => (by have := new_cells w8 #[.func (.func 14) #[.pointer (some ⟨db, dof, none⟩)] #[], .func (.func 46) #[] #[.pointer (some ⟨b1, 0, none⟩), .pointer (some ⟨b2, 0, none⟩), .pointer (some ⟨b3, 0, none⟩)], .func (.func 14) #[.pointer (some ⟨db, dof, none⟩)] #[]] 37 y z hz; rw [add_plain_addr]; exact this)) (fun y hy => (by simp only [List.mem_cons, List.not_mem_nil, or_false] at hy; rcases hy with rfl | rfl | rfl <;> rfl)) (by decide) (by decide) hz9 ?_; intro g10 cap10 w10 hown10 hgr10 hat10 hlt10; have J10 := Lib.hid (J9.out.grown hgr10 (fun k hk => HKB.out k (own_block hown2 k hk))); have k0 : w10.cell? ⟨b, 0, none⟩ = some (.pointer (some ⟨db, dof, none⟩)) := J10.out.cell 0; have k3 : w10.cell? ⟨b, 3, none⟩ = some (.int .i64 j.turn) := J10.out.cell 3))
                all_goals go_wp2_with fail
                all_goals go_meet
                all_goals exact ⟨g10, cap10, rfl, (stps3 hwl HST.out hb2 hown2 (hb7'.out.trans (HB8.out.mono hb7'.out.size)) HB9.out O9.out HST8.out hown10 hgr10 HKB.out).1, J10.out, (stps3 hwl HST.out hb2 hown2 (hb7'.out.trans (HB8.out.mono hb7'.out.size)) HB9.out O9.out HST8.out hown10 hgr10 HKB.out).2⟩
              case rest =>
                obtain ⟨g, cap, rfl, hst3, hj3, hw3⟩ := hcut
                have DA := Lib.hid (Does_any hj3 hst3 (by rw [List.length_append, hwl]; simp))
                have W7 := Lib.hid (W6.out.trans hw3)
                clear hst3 hj3 hw3 HST hb2 hown2
                go_wp2_with fail
                refine DA.out.mono ?_
                rintro _ w7 ⟨rfl, F2, h7, hw7⟩
                have W8 := Lib.hid (W7.out.trans hw7)
                have hd7 : ∀ q : Bool, ({ j with dead := j.dead || q } : Jr) = ⟨j.first, j.at_, j.turn, q⟩ := fun q => by rw [hd, Bool.false_or]
                rw [hd7] at h7
                have hNb : (N : Int) ≤ 255 := by omega
                clear hw7 DA hd7
                generalize wrs (ot + 1) qs ++ [.sy, .wr ot (headL T), .sy] = LL at *
                by_cases hE : stpsE LL A = 0
                · have q1' := Lib.hid (q1.out.trans hE)
                  have q3' := Lib.hid (q3.out.trans (if_pos hE))
                  rw [hE] at h7 ⊢
                  have h8 : JD w7 F2 (.pointer (some ⟨db, dof, none⟩)) (stpsA LL A) b ⟨j.first, j.at_, j.turn, false⟩ := h7
                  have e3 : w7.cell? ⟨b, 3, none⟩ = some (.int .i64 j.turn) := h8.cell 3
                  have e1 : w7.cell? ⟨b, 1, none⟩ = some (.int .i64 j.first) := h8.cell 1
                  have e2 : w7.cell? ⟨b, 2, none⟩ = some (.int .i64 j.at_) := h8.cell 2
                  have f1 := h8.unfrozen 1
                  have f2 := h8.unfrozen 2
                  have f3 := h8.unfrozen 3
                  have HD := Lib.hid (((h8.set (k := 1) (v := .int .i64 ot) (j' := ⟨ot, j.at_, j.turn, false⟩) rfl).set (k := 2) (v := .int .i64 (ot + 1 + N)) (j' := ⟨ot, ot + 1 + N, j.turn, false⟩) rfl).set (k := 3) (v := .int .i64 (j.turn + 1)) (j' := ⟨ot, ot + 1 + N, j.turn + 1, false⟩) rfl)
                  have HWn := Lib.hid (((Went.of_set (F := F2) (b := b) (k := 1) (w := w7) (v := .int .i64 ot)).trans (Went.of_set (k := 2) (v := .int .i64 (ot + 1 + N)))).trans (Went.of_set (k := 3) (v := .int .i64 (j.turn + 1))))
                  clear h7 h8 hE hT hTm hN hq255 hwl hd hln hnl3 hal hr6 h255 hi2 hz htl hz1 hlt
                  go_wp2
                  go_ret
                  refine ⟨?_, F2, ?_, W8.out.trans HWn.out⟩
                  · rw [q1'.out]; rfl
                  · rw [q2.out, q3'.out]; exact HD.out
                · have q3' := Lib.hid (q3.out.trans (if_neg hE))
                  have hb6 : (stpsE LL A == 0) = false := by rw [beq_eq_false_iff_ne]; exact hE
                  have h8 : JD w7 F2 (.pointer (some ⟨db, dof, none⟩)) (stpsA LL A) b { j with dead := true } := by
                    rw [decide_eq_true hE] at h7
                    exact h7
                  have HD := Lib.hid h8
                  clear h7 h8 hE
                  generalize stpsE LL A = er at *
                  go_wp2
                  go_ret
                  refine ⟨?_, F2, ?_, W8.out⟩
                  · rw [q1.out]; rfl
                  · rw [q2.out, q3'.out]; exact HD.out
end Go.Proofs.Ytaigdbnfhehclaa
