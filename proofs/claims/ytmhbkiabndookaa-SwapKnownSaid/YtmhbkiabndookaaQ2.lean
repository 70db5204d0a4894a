/- What is proved: what each of two swaps in a play asks for, state by state (plain). No program in sight. -/
import Derived.Test.YtmhbkiabndookaaQ1
namespace Go.Proofs.Ytmhbkiabndookaa
open Go.RowKit

theorem stM1 (t : T) (s : S) (f : F) (tm : Bool) (h : s.st = 1) : stepM' t s f tm = agreedM t s f tm := if_pos h
theorem stM2 (t : T) (s : S) (f : F) (tm : Bool) (h : s.st = 2) : stepM' t s f tm = lockedM t s f tm := by unfold stepM'; rw [if_neg (by omega), if_pos h]
theorem stM3 (t : T) (s : S) (f : F) (tm : Bool) (h : s.st = 3) : stepM' t s f tm = claimingM t f := by unfold stepM'; rw [if_neg (by omega), if_neg (by omega), if_pos h]
theorem stM4 (t : T) (s : S) (f : F) (tm : Bool) (h : 4 ≤ s.st) : stepM' t s f tm = (0, s.st) := by unfold stepM'; rw [if_neg (by omega), if_neg (by omega), if_neg (by omega)]

theorem safeB_eq (t : T) (s : S) (f : F) (x : Int) (h : f.a = x ∧ f.b = x ∧ f.c = x) : safeB t s f = (s.d.safe t x x x == 0) := by unfold safeB; rw [h.1, h.2.1, h.2.2]
def At (f : F) (x : Int) : Prop := f.a = x ∧ f.b = x ∧ f.c = x

section
variable (c : Tm) (i : Int) (f : F)
theorem A_seen (st : Int) : (c.sA st).seen f = c.sA st := seen_no1 f rfl
theorem A_safe (st : Int) (hf : At f (c.n + i)) (h0 : 0 ≤ i) (h1 : i ≤ 2 * c.t.mar) : safeB c.t (c.sA st) f = true := by
  rw [safeB_eq _ _ _ _ hf, show (c.sA st).d = c.dA from rfl, safeA c i h0 h1]; rfl
theorem A_left (st : Int) (hf : At f (c.n + i)) (h0 : 0 ≤ i) (h1 : i ≤ 1000) : (c.sA st).d.leftP f.a f.b f.c = mx0 (c.t.long - i) := by
  rw [hf.1, hf.2.1, hf.2.2]; exact leftA c i h0 h1
theorem B_left (st : Int) (k : Bool) (hf : At f (c.n + i)) (h0 : 0 ≤ i) (h1 : i ≤ 1000) : (c.sB st k).d.leftP f.a f.b f.c = mx0 (3 * c.t.mar - i) := by
  rw [hf.1, hf.2.1, hf.2.2]; exact leftB c i h0 h1
theorem B_safe (st : Int) (k : Bool) (hf : At f (c.n + i)) (h0 : 0 ≤ i) (h1 : i ≤ c.P) : safeB c.t (c.sB st k) f = true := by
  rw [safeB_eq _ _ _ _ hf, show (c.sB st k).d = c.dB from rfl, safeB_yes c i h0 h1]; rfl
theorem B_late (st : Int) (k : Bool) (hf : At f (c.n + i)) (h0 : c.P < i) (h1 : i ≤ 1000) : safeB c.t (c.sB st k) f = false := by
  rw [safeB_eq _ _ _ _ hf, show (c.sB st k).d = c.dB from rfl, safeB_no c i h0 h1]; rfl
theorem A_lock (hf : At f (c.n + i)) (h0 : 0 ≤ i) (h1 : i ≤ 2 * c.t.mar) (hp : f.pin = 0) : (c.sA 1).next c.t f = (1, c.sA 2) := by
  refine next_of (A_seen c f 1) ?_
  rw [stM1 _ _ _ _ rfl, A_safe c i f 1 hf h0 h1]
  unfold agreedM
  rw [if_neg (by omega), if_neg (by decide), if_pos (.inl rfl)]
theorem A_wait (hf : At f (c.n + i)) (h0 : 0 ≤ i) (h1 : i ≤ 1000) (hp : 0 < f.pin) (hb : f.back < c.t.depth) (hg : f.gin < c.t.depth) (hl : i < c.t.long ∨ 1 ≤ f.back) : (c.sA 2).next c.t f = (0, c.sA 2) := by
  refine next_of (A_seen c f 2) ?_
  rw [stM2 _ _ _ _ rfl]
  unfold lockedM
  rw [A_left c i f 2 hf h0 h1, if_neg (by omega), if_neg (fun h => ?_), if_neg (fun h => ?_), if_neg (fun h => ?_)]
  · omega
  · obtain ⟨⟨x, _⟩, _, y⟩ := h
    rcases hl with hl | hl
    · rw [mx0_pos (by omega)] at y; omega
    · omega
  · rcases h.2 with h | h
    · exact h rfl
    · omega
theorem A_claim (hf : At f (c.n + i)) (h0 : 0 ≤ i) (h1 : i ≤ 2 * c.t.mar) (hb : f.back < c.t.depth) (hg : c.t.depth ≤ f.gin) : (c.sA 2).next c.t f = (2, c.sA 3) := by
  refine next_of (A_seen c f 2) ?_
  rw [stM2 _ _ _ _ rfl, A_safe c i f 2 hf h0 h1]
  unfold lockedM
  rw [if_neg (by omega), if_pos ⟨rfl, .inr ⟨hg, rfl⟩⟩]
theorem A_refund (hf : At f (c.n + i)) (h0 : c.t.long ≤ i) (h1 : i ≤ 1000) (h2 : 0 ≤ i) (hp : 0 < f.pin) (hb : f.back = 0) (hx : f.lost = 0) (hg : f.gin < c.t.depth) : (c.sA 2).next c.t f = (3, c.sA 2) := by
  have := c.d0
  refine next_of (A_seen c f 2) ?_
  rw [stM2 _ _ _ _ rfl]
  unfold lockedM
  rw [A_left c i f 2 hf h2 h1, if_neg (by omega), if_neg (fun h => ?_), if_pos ⟨⟨by omega, by omega⟩, hp, mx0_neg (by omega)⟩]
  rcases h.2 with h | h
  · exact h rfl
  · omega
theorem A_back (hb : c.t.depth ≤ f.back) : (c.sA 2).next c.t f = (4, c.sA 5) := by
  refine next_of (A_seen c f 2) ?_
  rw [stM2 _ _ _ _ rfl]
  exact if_pos hb
theorem A_claiming (hg : f.gout < c.t.depth) (h1 : 1 ≤ f.gout) : (c.sA 3).next c.t f = (0, c.sA 3) := by
  refine next_of (A_seen c f 3) ?_
  rw [stM3 _ _ _ _ rfl]
  unfold claimingM
  rw [if_neg (by omega), if_neg (by omega)]
theorem A_claimed (hg : c.t.depth ≤ f.gout) : (c.sA 3).next c.t f = (4, c.sA 4) := by
  refine next_of (A_seen c f 3) ?_
  rw [stM3 _ _ _ _ rfl]
  exact if_pos hg
theorem A_over (st : Int) (h : 4 ≤ st) : (c.sA st).next c.t f = (0, c.sA st) := by
  refine next_of (A_seen c f st) ?_
  rw [stM4 _ _ _ _ h]; rfl

theorem B_seen (st : Int) (h : f.seen = false) : (c.sB st false).seen f = c.sB st false := seen_no2 _ h
theorem B_seen' (st : Int) : (c.sB st true).seen f = c.sB st true := seen_no1 f rfl
theorem B_sees (st : Int) (h : f.seen = true) (he : f.se = h9) : (c.sB st false).seen f = c.sB st true := by
  rw [seen_yes rfl h, he]; rfl
theorem B_agreed (hf : At f (c.n + i)) (h0 : 0 ≤ i) (h1 : i ≤ c.P) (hs : f.seen = false) (hp : f.pin = 0) (hg : f.gin < c.t.depth) : (c.sB 1 false).next c.t f = (0, c.sB 1 false) := by
  refine next_of (B_seen c f 1 hs) ?_
  rw [stM1 _ _ _ _ rfl, B_safe c i f 1 false hf h0 h1]
  unfold agreedM
  rw [if_neg (by omega), if_neg (by decide), if_neg (fun h => h.elim (show ¬ (2 : Int) = 1 by decide) (by omega))]
theorem B_lock (hf : At f (c.n + i)) (h0 : 0 ≤ i) (h1 : i ≤ c.P) (hs : f.seen = false) (hp : f.pin = 0) (hg : c.t.depth ≤ f.gin) : (c.sB 1 false).next c.t f = (1, c.sB 2 false) := by
  refine next_of (B_seen c f 1 hs) ?_
  rw [stM1 _ _ _ _ rfl, B_safe c i f 1 false hf h0 h1]
  unfold agreedM
  rw [if_neg (by omega), if_neg (by decide), if_pos (.inr hg)]
theorem B_abort (hf : At f (c.n + i)) (h0 : c.P < i) (h1 : i ≤ 1000) (hs : f.seen = false) (hp : f.pin = 0) : (c.sB 1 false).next c.t f = (4, c.sB 6 false) := by
  refine next_of (B_seen c f 1 hs) ?_
  rw [stM1 _ _ _ _ rfl, B_late c i f 1 false hf h0 h1]
  unfold agreedM
  rw [if_neg (by omega), if_pos rfl]
theorem B_wait (hf : At f (c.n + i)) (h0 : 0 ≤ i) (h1 : i ≤ 1000) (hs : f.seen = false) (hp : 0 < f.pin) (hb : f.back < c.t.depth) (hl : i < 3 * c.t.mar ∨ 1 ≤ f.back) : (c.sB 2 false).next c.t f = (0, c.sB 2 false) := by
  refine next_of (B_seen c f 2 hs) ?_
  rw [stM2 _ _ _ _ rfl]
  unfold lockedM
  rw [B_left c i f 2 false hf h0 h1, if_neg (by omega), if_neg (fun h => ?_), if_neg (fun h => ?_), if_neg (fun h => ?_)]
  · omega
  · obtain ⟨⟨x, _⟩, _, y⟩ := h
    rcases hl with hl | hl
    · rw [mx0_pos (by omega)] at y; omega
    · omega
  · exact Bool.noConfusion (show false = true from h.1)
theorem B_claim (hs : f.seen = true) (he : f.se = h9) (hb : f.back < c.t.depth) : (c.sB 2 false).next c.t f = (2, c.sB 3 true) := by
  refine next_of (B_sees c f 2 hs he) ?_
  rw [stM2 _ _ _ _ rfl]
  unfold lockedM
  rw [if_neg (by omega), if_pos ⟨rfl, .inl (show ¬ (2 : Int) = 1 by decide)⟩]
theorem B_refund (hf : At f (c.n + i)) (h0 : 3 * c.t.mar ≤ i) (h1 : i ≤ 1000) (h2 : 0 ≤ i) (hs : f.seen = false) (hp : 0 < f.pin) (hb : f.back = 0) (hx : f.lost = 0) : (c.sB 2 false).next c.t f = (3, c.sB 2 false) := by
  have := c.d0
  refine next_of (B_seen c f 2 hs) ?_
  rw [stM2 _ _ _ _ rfl]
  unfold lockedM
  rw [B_left c i f 2 false hf h2 h1, if_neg (by omega), if_neg (fun h => ?_), if_pos ⟨⟨by omega, by omega⟩, hp, mx0_neg (by omega)⟩]
  exact Bool.noConfusion (show false = true from h.1)
theorem B_back (hs : f.seen = false) (hb : c.t.depth ≤ f.back) : (c.sB 2 false).next c.t f = (4, c.sB 5 false) := by
  refine next_of (B_seen c f 2 hs) ?_
  rw [stM2 _ _ _ _ rfl]
  exact if_pos hb
theorem B_claiming (hg : f.gout < c.t.depth) (h1 : 1 ≤ f.gout) : (c.sB 3 true).next c.t f = (0, c.sB 3 true) := by
  refine next_of (B_seen' c f 3) ?_
  rw [stM3 _ _ _ _ rfl]
  unfold claimingM
  rw [if_neg (by omega), if_neg (by omega)]
theorem B_claimed (hg : c.t.depth ≤ f.gout) : (c.sB 3 true).next c.t f = (4, c.sB 4 true) := by
  refine next_of (B_seen' c f 3) ?_
  rw [stM3 _ _ _ _ rfl]
  exact if_pos hg
theorem B_over (st : Int) (h : 4 ≤ st) (hs : f.seen = false) : (c.sB st false).next c.t f = (0, c.sB st false) := by
  refine next_of (B_seen c f st hs) ?_
  rw [stM4 _ _ _ _ h]; rfl
theorem B_over' (st : Int) (h : 4 ≤ st) : (c.sB st true).next c.t f = (0, c.sB st true) := by
  refine next_of (B_seen' c f st) ?_
  rw [stM4 _ _ _ _ h]; rfl
end
end Go.Proofs.Ytmhbkiabndookaa
