/- What is proved: the disk's functions, in a world: New, Down, Count, Arm, Write, Sync, Read, Crash. No condition but those each law names. -/
import Derived.Test.YtaigdbnfhehclaaJ1
namespace Go.Proofs.Ytaigdbnfhehclaa
open Go.RowKit
namespace Sx
set_option maxRecDepth 100000

/-- Behind a call of the disk's: the answer, the disk, and that nothing else has turned. -/
def Did (F : Foot) (w : World) (dv : Value) (A' : Ab) (v : Value) : Ending → World → Prop := fun en w' => en = .returned v ∧ ∃ F', DW w' F' dv A' ∧ Turns F w w' ∧ ∀ b x, F' b x → F b x ∨ w.heap.size ≤ b
theorem plain_nil : Plain [] := fun c hc => by simp at hc
theorem off_nil {F : Foot} {n : Nat} : ∀ b o j, (none : Option Addr) = some ⟨b, o, none⟩ → j < n → ¬ F b (o + j) := fun b o j h => by cases h
theorem tup_nil (h : Nat → OneV) (ρ : Env) : concE h (E.nam ρ lay0 (.tup [])) = .tuple #[] := by
  rw [E.nam, E.nams]
  simp [concE]
theorem args1 {dv : Value} : ∀ h d v, concE h (tokAt d 0) = dv → concE h v = .slice none 0 0 → (([tokAt d 0] : List Value).map (concE h)).toArray = #[dv] := fun h d v e _ => by
  simp only [List.map_cons, List.map_nil, e]
theorem inv1 : ∀ (h : Nat → OneV) (n d : Nat) (v : Value), Inv h n (tokAt d 0) → Inv h n v → ∀ u ∈ ([tokAt d 0] : List Value), Inv h n u := fun h n d v i1 _ u hu => by
  rw [List.mem_singleton] at hu
  subst hu
  exact i1
theorem down_w {w : World} {F : Foot} {dv : Value} {A : Ab} (H : DW w F dv A) : Calls Try.prog 24 #[dv] w (Did F w dv A (.bool A.off)) := by
  refine (dw_call down_holds (by kernel_rfl) H plain_nil (Go.Proofs.Ytaigdbnfhehclaa.Sl.nothing w) off_nil (args := fun d _ => [tokAt d 0]) (Post := fun A' h' r _ _ => A' = A ∧ concE h' r = .bool A.off) args1 inv1 ?_).mono ?_
  · intro G d M v hd hA _
    exact ⟨(Env.ofL [.bool A.off]).ans (encG G), M, G, A, ⟨d, M, rfl, hd, hA.off.symm, rfl⟩, rfl, DStep.refl hd, hA, fun _ _ _ _ _ _ => ⟨rfl, rfl⟩⟩
  · rintro en w' ⟨A', h', r, F', rfl, ⟨rfl, hv⟩, h1, h2, h3⟩
    exact ⟨by rw [hv], F', h1, h2, h3⟩
theorem count_w {w : World} {F : Foot} {dv : Value} {A : Ab} (H : DW w F dv A) : Calls Try.prog 20 #[dv] w (Did F w dv A (.int .i64 A.done)) := by
  refine (dw_call count_holds (by kernel_rfl) H plain_nil (Go.Proofs.Ytaigdbnfhehclaa.Sl.nothing w) off_nil (args := fun d _ => [tokAt d 0]) (Post := fun A' h' r _ _ => A' = A ∧ concE h' r = .int .i64 A.done) args1 inv1 ?_).mono ?_
  · intro G d M v hd hA _
    exact ⟨(Env.ofL [.int .i64 A.done]).ans (encG G), M, G, A, ⟨d, M, rfl, hd, hA.done.symm, rfl⟩, rfl, DStep.refl hd, hA, fun _ _ _ _ _ _ => ⟨rfl, rfl⟩⟩
  · rintro en w' ⟨A', h', r, F', rfl, ⟨rfl, hv⟩, h1, h2, h3⟩
    exact ⟨by rw [hv], F', h1, h2, h3⟩
/-- The plain disk: an armed disk's operation. -/
def Ab.str (A : Ab) : Bool := !decide (A.left < 0) && decide (A.left - 1 < 0)
def Ab.strA (A : Ab) : Ab := if A.left < 0 then A else { A with left := A.left - 1, off := decide (A.left - 1 < 0) }
theorem absA_str {M : DiskM} {A : Ab} (h : AbsA M A) : AbsA (strM M) A.strA ∧ strB M = A.str := by
  unfold strM Ab.strA strB Ab.str
  rw [h.left]
  refine ⟨?_, rfl⟩
  split
  · exact h
  · exact ⟨h.la, h.lo, rfl, rfl, h.done⟩
def Ab.arm (A : Ab) (n : Int) : Ab := { A with left := intMax n (-1) }
theorem args2 {dv : Value} {k : Int} : ∀ h d v, concE h (tokAt d 0) = dv → concE h v = .slice none 0 0 → (([tokAt d 0, .int .i64 k] : List Value).map (concE h)).toArray = #[dv, .int .i64 k] := fun h d v e _ => by
  simp only [List.map_cons, List.map_nil, e]
  rfl
theorem inv2 {k : Int} : ∀ (h : Nat → OneV) (n d : Nat) (v : Value), Inv h n (tokAt d 0) → Inv h n v → ∀ u ∈ ([tokAt d 0, .int .i64 k] : List Value), Inv h n u := fun h n d v i1 _ u hu => by
  simp only [List.mem_cons, List.not_mem_nil, or_false] at hu
  rcases hu with rfl | rfl
  · exact i1
  · exact Inv.of_const fun _ => rfl
theorem arm_w {w : World} {F : Foot} {dv : Value} {A : Ab} (H : DW w F dv A) (n : Int) (hn : n < 9223372036854775808) : Calls Try.prog 15 #[dv, .int .i64 n] w (Did F w dv (A.arm n) (.tuple #[])) := by
  refine (dw_call arm_holds (by kernel_rfl) H plain_nil (Go.Proofs.Ytaigdbnfhehclaa.Sl.nothing w) off_nil (args := fun d _ => [tokAt d 0, .int .i64 n]) (Post := fun A' h' r _ _ => A' = A.arm n ∧ concE h' r = .tuple #[]) args2 inv2 ?_).mono ?_
  · intro G d M v hd hA _
    refine ⟨(Env.ofL []).ans (encG (armG G d M n)), armM M n, armG G d M n, A.arm n, ⟨d, M, n, rfl, hd, rfl⟩, rfl, arm_step hd hn, ⟨hA.la, hA.lo, hA.off, rfl, hA.done⟩, fun _ _ _ _ _ _ => ⟨rfl, tup_nil _ _⟩⟩
  · rintro en w' ⟨A', h', r, F', rfl, ⟨rfl, hv⟩, h1, h2, h3⟩
    exact ⟨by rw [hv], F', h1, h2, h3⟩
def padN (l : List Nat) : List Nat := l ++ List.replicate (128 - l.length) 0
theorem padN_ints (l : List Nat) : pad (ints l) = ints (padN l) := by
  unfold pad padN ints
  rw [List.map_append, List.map_replicate, List.length_map]
  rfl
def Ab.put (A : Ab) (i : Int) (l : List Nat) : Ab := { A with loose := fun k => if k = i then some (padN l) else A.loose k, done := inc A.done }
def Ab.wr (A : Ab) (i : Int) (l : List Nat) : Ab := if A.off then A else (A.put i l).strA
def Ab.wrE (A : Ab) (i : Int) (l : List Nat) : Int := if A.off then 9 else if (A.put i l).str then 9 else 0
theorem absA_put {M : DiskM} {A : Ab} (h : AbsA M A) (i : Int) (l : List Nat) : AbsA (wrM1 M i (ints l)) (A.put i l) := by
  refine ⟨h.la, fun k => ?_, h.off, h.left, ?_⟩
  · show getA (putA M.lo i (pad (ints l))) k = _
    rw [getA_put, padN_ints, h.lo]
    unfold Ab.put
    by_cases e : k = i
    · rw [if_pos e]; simp [e]
    · rw [if_neg e]; simp [e]
  · show inc M.done = inc A.done
    rw [h.done]
theorem absA_wr {M : DiskM} {A : Ab} (h : AbsA M A) {i : Int} {l : List Nat} (hi : 0 ≤ i ∧ i < 512) (hl : l.length ≤ 128) : AbsA (wrM M i (ints l)) (A.wr i l) ∧ wrE M i (ints l) = A.wrE i l := by
  have hb : wrBad i (ints l).length = false := by
    unfold wrBad
    rw [ints_len, decide_eq_false (by omega), decide_eq_false (by omega), decide_eq_false (by omega)]
    rfl
  unfold wrM wrE Ab.wr Ab.wrE
  rw [h.off, hb]
  cases A.off with
  | true => exact ⟨h, rfl⟩
  | false =>
    obtain ⟨h1, h2⟩ := absA_str (absA_put h i l)
    simp only [Bool.false_eq_true, if_false]
    exact ⟨h1, by rw [h2]⟩
theorem plain_u8 (l : List Nat) : Plain (bts l) := fun c hc => by
  unfold bts at hc
  obtain ⟨n, _, rfl⟩ := List.mem_map.1 hc
  exact ⟨_, _, rfl⟩
theorem write_w {w : World} {F : Foot} {dv : Value} {A : Ab} (H : DW w F dv A) {i : Int} (hi : 0 ≤ i ∧ i < 512) {ao : Option Addr} {n c : Nat} {l : List Nat} (hsl : Go.Proofs.Ytaigdbnfhehclaa.Sl w ao n c (bts l)) (hl : n ≤ 128) (hap : ∀ b o j, ao = some ⟨b, o, none⟩ → j < n → ¬ F b (o + j)) :
    Calls Try.prog 13 #[dv, .int .i64 i, .slice ao n c] w (Did F w dv (A.wr i l) (.int .i64 (A.wrE i l))) := by
  have hln : l.length = n := by rw [← hsl.len, bts_length]
  refine (dw_call wr_holds (by kernel_rfl) H (plain_u8 l) hsl hap (args := fun d v => [tokAt d 0, .int .i64 i, v]) (Post := fun A' h' r _ _ => A' = A.wr i l ∧ concE h' r = .int .i64 (A.wrE i l)) ?_ ?_ ?_).mono ?_
  · intro h d v e1 e2
    simp only [List.map_cons, List.map_nil, e1, e2]
    rfl
  · intro h n d v i1 i2 u hu
    simp only [List.mem_cons, List.not_mem_nil, or_false] at hu
    rcases hu with rfl | rfl | rfl
    · exact i1
    · exact Inv.of_const fun _ => rfl
    · exact i2
  · intro G d M v hd hA hs
    obtain ⟨a1, a2⟩ := absA_wr hA hi (l := l) (by omega)
    have hs0 := hs G FrD.refl
    refine ⟨(Env.ofL [.int .i64 (A.wrE i l)]).ans (encG (wrG G d M i (ints l))), wrM M i (ints l), _, A.wr i l, ⟨d, M, i, v, ints l, rfl, hd, by rw [ints_bts, ints_len, hln]; exact hs0, a2.symm, rfl⟩, rfl, wr_step hd i (ints l), a1, fun _ _ _ _ _ _ => ⟨rfl, rfl⟩⟩
  · rintro en w' ⟨A', h', r, F', rfl, ⟨rfl, hv⟩, h1, h2, h3⟩
    exact ⟨by rw [hv], F', h1, h2, h3⟩
theorem sy_step {G : List Ob} {d : Nat} {M : DiskM} (h : IsDisk G d M) : DStep d M G (syM M G.length) (syG G d M) := by
  have h1 := DStep.of_keeps h (Keeps.append G (M.lo.map fun p => Ob.ptr (u8s p.2))) (by simp)
  have h2 := h1.trans (h1.is_.put (M' := { M with done := inc M.done }) rfl rfl rfl rfl h.rng)
  have h3 := h2.trans (h2.is_.putLa (syLa M.la M.lo G.length) fun k q hq => by
    have nx : ∀ (n : Nat) bs, (G ++ M.lo.map fun p => Ob.ptr (u8s p.2))[n]? = some (.ptr (u8s bs)) → bs.length = 128 → ((G ++ M.lo.map fun p => Ob.ptr (u8s p.2)).set d (.ptr ({ M with done := inc M.done } : DiskM).cells))[n]? = some (.ptr (u8s bs)) := fun n bs hn hl => by
      rw [List.getElem?_set_ne (Ne.symm (h1.is_.ned hn (sec_ne hl)))]
      exact hn
    rcases syLa_mem hq with hq | ⟨j, p, hj, e⟩
    · have := h1.is_.la k q hq
      exact ⟨nx _ _ this.1 this.2, this.2⟩
    · injection e with e1 e2
      injection e2 with e2
      subst e2
      have hl := (h.lo p (List.mem_of_getElem? hj)).1
      refine ⟨nx _ _ ?_ hl, hl⟩
      show (G ++ _)[G.length + j]? = _
      rw [List.getElem?_append_right (by omega), Nat.add_sub_cancel_left, List.getElem?_map, hj]
      rfl)
  exact h3.trans (h3.is_.putLo [] (fun p hp => by cases hp) List.nodup_nil)
theorem syc_step {G : List Ob} {d : Nat} {M : DiskM} (h : IsDisk G d M) : DStep d M G (sycM M G.length) (sycG G d M) := by
  unfold sycM sycG
  split
  · exact DStep.refl h
  split
  · exact str_step h
  · have h1 := str_step h
    have h2 := sy_step h1.is_
    rw [strG_len] at h2
    have := h1.trans h2
    exact this
/-- Sync. -/
def Ab.syLast (A : Ab) (k : Int) : Option (List Nat) := match A.loose k with
  | some l => some l
  | none => A.last k
def Ab.sy (A : Ab) : Ab := ⟨A.syLast, fun _ => none, A.off, A.left, inc A.done⟩
def Ab.syc (A : Ab) : Ab := if A.off then A else if A.str then A.strA else A.strA.sy
def Ab.sycE (A : Ab) : Int := if A.off then 9 else if A.str then 9 else 0
theorem absA_sy {G : List Ob} {d : Nat} {M : DiskM} {A : Ab} (hd : IsDisk G d M) (h : AbsA M A) (n : Nat) : AbsA (syM M n) A.sy := by
  refine ⟨fun k => ?_, fun k => rfl, h.off, h.left, ?_⟩
  · show (getA (syLa M.la M.lo n) k = none ∧ _) ∨ (getA (syLa M.la M.lo n) k = some none ∧ _) ∨ ∃ r l, getA (syLa M.la M.lo n) k = some (some (r, ints l)) ∧ _
    have hk := h.lo k
    show (_ ∧ A.syLast k = _) ∨ (_ ∧ A.syLast k = _) ∨ ∃ r l, _ ∧ A.syLast k = _
    unfold Ab.syLast
    cases hl : A.loose k with
    | none =>
      rw [hl] at hk
      rw [syLa_out hk]
      exact h.la k
    | some l =>
      rw [hl] at hk
      obtain ⟨j, hj⟩ := List.getElem?_of_mem (getA_mem hk)
      have := syLa_in hd.nd hj M.la n
      exact .inr (.inr ⟨_, _, this, rfl⟩)
  · show inc M.done = inc A.done
    rw [h.done]
theorem sync_w {w : World} {F : Foot} {dv : Value} {A : Ab} (H : DW w F dv A) : Calls Try.prog 14 #[dv] w (Did F w dv A.syc (.int .i64 A.sycE)) := by
  refine (dw_call sync_holds (by kernel_rfl) H plain_nil (Go.Proofs.Ytaigdbnfhehclaa.Sl.nothing w) off_nil (args := fun d _ => [tokAt d 0]) (Post := fun A' h' r _ _ => A' = A.syc ∧ concE h' r = .int .i64 A.sycE) args1 inv1 ?_).mono ?_
  · intro G d M v hd hA _
    obtain ⟨h1, h2⟩ := absA_str hA
    have e1 : sycE M = A.sycE := by unfold sycE Ab.sycE; rw [hA.off, h2]
    refine ⟨(Env.ofL [.int .i64 A.sycE]).ans (encG (sycG G d M)), sycM M G.length, sycG G d M, A.syc, ⟨d, M, rfl, hd, e1.symm, rfl⟩, rfl, syc_step hd, ?_, fun _ _ _ _ _ _ => ⟨rfl, rfl⟩⟩
    · unfold sycM Ab.syc
      rw [hA.off, h2]
      cases A.off with
      | true => exact hA
      | false =>
        cases A.str with
        | true => exact h1
        | false => exact absA_sy (str_step hd).is_ h1 _
  · rintro en w' ⟨A', h', r, F', rfl, ⟨rfl, hv⟩, h1, h2, h3⟩
    exact ⟨by rw [hv], F', h1, h2, h3⟩
/-- What a sector reads as; none: torn. -/
def Ab.see (A : Ab) (i : Int) : Option (List Nat) := match A.loose i with
  | some l => some l
  | none => A.last i
/-- Behind a Read: the sector's bytes, in memory of their own; or the errno 24. -/
def DidRead (F : Foot) (w : World) (dv : Value) (A : Ab) (i : Int) : Ending → World → Prop := fun en w' => ∃ F', DW w' F' dv A ∧ Turns F w w' ∧ (∀ b x, F' b x → F b x ∨ w.heap.size ≤ b) ∧ match A.see i with
  | some l => ∃ b o c, en = .returned (.tuple #[.slice (some ⟨b, o, none⟩) 128 c, .int .i64 0]) ∧ l.length = 128 ∧ Go.Proofs.Ytaigdbnfhehclaa.Sl w' (some ⟨b, o, none⟩) 128 c (bts l) ∧ ∀ j, j < 128 → ¬ F' b (o + j) ∧ w'.frozen? ⟨b, o + j, none⟩ = false ∧ (F b (o + j) ∨ w.heap.size ≤ b)
  | none => en = .returned (.tuple #[.slice none 0 0, .int .i64 24])
/-- Where a slice of the store reads. -/
theorem res_foot {w : World} {h : Nat → OneV} {F : Foot} {G : List Ob} {f : Nat → Foot} (H : Objs w h F G f) {v : Value} {m k len : Nat} {all : List Value} (hs : SlIn G v m k 1 len) (hc : cellsAt G m = some all) (hk : k + len ≤ all.length)
    {b o c : Nat} (hv : concE h v = .slice (some ⟨b, o, none⟩) len c) (hl : 0 < len) : ∀ j, j < len → f m b (o + j) ∧ m < G.length := fun j hj => by
  obtain ⟨a, cap, e1, _, e2, _⟩ := hs.val H
  rw [hv] at e1
  simp only [Value.slice.injEq, Option.some.injEq] at e1
  obtain ⟨rfl, _, _⟩ := e1
  have e3 := e2 (by omega)
  unfold cellsAt at hc
  rw [Option.bind_eq_some_iff] at hc
  obtain ⟨om, ho, hcs⟩ := hc
  have hob := H.ob m om ho
  refine ⟨?_, (List.getElem?_eq_some_iff.1 ho).1⟩
  cases om with
  | row s n cells =>
    cases hcs
    obtain ⟨b0, o0, cap0, p1, _, _, _, _, _, p2, _⟩ := hob
    rw [p1] at e3
    simp only [hatV, Value.pointer.injEq, Option.some.injEq, Addr.mk.injEq] at e3
    obtain ⟨rfl, rfl, _⟩ := e3
    exact (p2 _ _).2 ⟨rfl, by omega⟩
  | ro s n cells =>
    cases hcs
    obtain ⟨b0, o0, sp0, cap0, p1, _, _, _, _, p2⟩ := hob
    rw [p1] at e3
    simp only [hatV, Value.pointer.injEq, Option.some.injEq, Addr.mk.injEq] at e3
    obtain ⟨rfl, rfl, _⟩ := e3
    exact (p2 _ _).2 ⟨rfl, by omega, by omega⟩
  | ptr cells =>
    cases hcs
    obtain ⟨b0, o0, p1, _, _, p2⟩ := hob
    rw [p1] at e3
    simp only [hatV, Value.pointer.injEq, Option.some.injEq, Addr.mk.injEq] at e3
    obtain ⟨rfl, rfl, _⟩ := e3
    exact (p2 _ _).2 ⟨rfl, by omega, by omega⟩
  | _ => cases hcs
/-- What a slice of the store reads does not lie where another object lies. -/
theorem res_apart {w : World} {h : Nat → OneV} {F : Foot} {G : List Ob} {f : Nat → Foot} (H : Objs w h F G f) {v : Value} {m k len : Nat} {all : List Value} (hs : SlIn G v m k 1 len) (hc : cellsAt G m = some all) (hk : k + len ≤ all.length)
    {b o c : Nat} (hv : concE h v = .slice (some ⟨b, o, none⟩) len c) (hl : 0 < len) {i : Nat} (hi : i ≠ m) {oi : Ob} (hoi : G[i]? = some oi) (hsh : oi.shared = false) : ∀ j, j < len → ¬ f i b (o + j) := fun j hj hf => by
  obtain ⟨a, cap, e1, _, e2, _⟩ := hs.val H
  rw [hv] at e1
  simp only [Value.slice.injEq, Option.some.injEq] at e1
  obtain ⟨rfl, _, _⟩ := e1
  have e3 := e2 (by omega)
  unfold cellsAt at hc
  rw [Option.bind_eq_some_iff] at hc
  obtain ⟨om, ho, hcs⟩ := hc
  have hob := H.ob m om ho
  have key : f m b (o + j) := by
    cases om with
    | row s n cells =>
      cases hcs
      obtain ⟨b0, o0, cap0, p1, _, _, _, _, _, p2, _⟩ := hob
      rw [p1] at e3
      simp only [hatV, Value.pointer.injEq, Option.some.injEq, Addr.mk.injEq] at e3
      obtain ⟨rfl, rfl, _⟩ := e3
      exact (p2 _ _).2 ⟨rfl, by omega⟩
    | ro s n cells =>
      cases hcs
      obtain ⟨b0, o0, sp0, cap0, p1, _, _, _, _, p2⟩ := hob
      rw [p1] at e3
      simp only [hatV, Value.pointer.injEq, Option.some.injEq, Addr.mk.injEq] at e3
      obtain ⟨rfl, rfl, _⟩ := e3
      exact (p2 _ _).2 ⟨rfl, by omega, by omega⟩
    | ptr cells =>
      cases hcs
      obtain ⟨b0, o0, p1, _, _, p2⟩ := hob
      rw [p1] at e3
      simp only [hatV, Value.pointer.injEq, Option.some.injEq, Addr.mk.injEq] at e3
      obtain ⟨rfl, rfl, _⟩ := e3
      exact (p2 _ _).2 ⟨rfl, by omega, by omega⟩
    | _ => cases hcs
  exact H.apart i m oi om hoi ho hi (by rw [hsh]; rfl) b (o + j) hf key
/-- .. and it may be written, where the object is no part of what came in. -/
theorem res_soft {w : World} {h : Nat → OneV} {F : Foot} {G : List Ob} {f : Nat → Foot} (H : Objs w h F G f) {v : Value} {m k len : Nat} {all : List Value} (hs : SlIn G v m k 1 len) (hc : cellsAt G m = some all) (hk : k + len ≤ all.length)
    {b o c : Nat} (hv : concE h v = .slice (some ⟨b, o, none⟩) len c) (hl : 0 < len) (hsh : ∀ om, G[m]? = some om → om.shared = false) : ∀ j, j < len → w.frozen? ⟨b, o + j, none⟩ = false := fun j hj => by
  obtain ⟨a, cap, e1, _, e2, _⟩ := hs.val H
  rw [hv] at e1
  simp only [Value.slice.injEq, Option.some.injEq] at e1
  obtain ⟨rfl, _, _⟩ := e1
  have e3 := e2 (by omega)
  unfold cellsAt at hc
  rw [Option.bind_eq_some_iff] at hc
  obtain ⟨om, ho, hcs⟩ := hc
  have hob := H.ob m om ho
  have hsh2 := hsh om ho
  cases om with
  | row s n cells =>
    cases hcs
    obtain ⟨b0, o0, cap0, p1, _, p4, p5, p6, _, p2, _⟩ := hob
    rw [p1] at e3
    simp only [hatV, Value.pointer.injEq, Option.some.injEq, Addr.mk.injEq] at e3
    obtain ⟨rfl, rfl, _⟩ := e3
    have hmm : n * s ≤ cap0 * s := Nat.mul_le_mul_right s (by omega)
    have := (p6 (k + j) (by omega)).2
    rw [Nat.add_assoc]
    exact this
  | ro s n cells => cases hsh2
  | ptr cells =>
    cases hcs
    obtain ⟨b0, o0, p1, _, p3, p2⟩ := hob
    rw [p1] at e3
    simp only [hatV, Value.pointer.injEq, Option.some.injEq, Addr.mk.injEq] at e3
    obtain ⟨rfl, rfl, _⟩ := e3
    have := (p3 (k + j) _ (List.getElem?_eq_getElem (by omega))).2
    rw [Nat.add_assoc]
    exact this
  | _ => cases hcs
theorem read_w {w : World} {F : Foot} {dv : Value} {A : Ab} (H : DW w F dv A) {i : Int} (hi : 0 ≤ i ∧ i < 512) : Calls Try.prog 12 #[dv, .int .i64 i] w (DidRead F w dv A i) := by
  have hbad : rdBad i = false := by
    unfold rdBad
    rw [decide_eq_false (by omega), decide_eq_false (by omega)]
    rfl
  refine (dw_call rd_holds (by kernel_rfl) H plain_nil (Go.Proofs.Ytaigdbnfhehclaa.Sl.nothing w) off_nil (args := fun d _ => [tokAt d 0, .int .i64 i])
    (Post := fun A' h' r w' F' => A' = A ∧ match A.see i with
      | some l => ∃ b o c, concE h' r = .tuple #[.slice (some ⟨b, o, none⟩) 128 c, .int .i64 0] ∧ l.length = 128 ∧ Go.Proofs.Ytaigdbnfhehclaa.Sl w' (some ⟨b, o, none⟩) 128 c (bts l) ∧ ∀ j, j < 128 → ¬ F' b (o + j) ∧ w'.frozen? ⟨b, o + j, none⟩ = false ∧ (F b (o + j) ∨ w.heap.size ≤ b)
      | none => concE h' r = .tuple #[.slice none 0 0, .int .i64 24]) args2 inv2 ?_).mono ?_
  · intro G d M v hd hA _
    have hone := rdV_one G M i
    have hdl : d < G.length := (List.getElem?_eq_some_iff.1 hd.ob).1
    have m1l := (List.getElem?_eq_some_iff.1 hd.ma).1
    have m2l := (List.getElem?_eq_some_iff.1 hd.mo).1
    refine ⟨(Env.ofL [rdV G M i, .int .i64 (rdE M i)]).ans (encG (rdG G M i)), M, rdG G M i, A, ⟨d, M, i, rfl, hd, rfl, rfl, rfl⟩, rfl, DStep.of_keeps hd (rd_keeps hd i) (rd_len hd i), hA, fun h' w' F' f' HO hnew => ⟨rfl, ?_⟩⟩
    obtain ⟨_, hsl⟩ := rd_at hd i
    have hr : concE h' (E.nam ((Env.ofL [rdV G M i, .int .i64 (rdE M i)]).ans (encG (rdG G M i))) lay0 (.tup [.hnd 0, .int .i64 (.var 1)])) = .tuple #[concE h' (rdV G M i), .int .i64 (rdE M i)] := by
      have e1 : E.nam ((Env.ofL [rdV G M i, .int .i64 (rdE M i)]).ans (encG (rdG G M i))) lay0 (.tup [.hnd 0, .int .i64 (.var 1)]) = .tuple #[oneOf (rdV G M i), .int .i64 (rdE M i)] := rfl
      rw [e1, oneOf_eq hone]
      have hh : ∀ v : Value, v.oneCell' = true → concA h' v = concE h' v := fun v hv => by
        cases v <;> first | rfl | cases hv
      simp only [concE, List.map_toArray, List.map_cons, List.map_nil, hh _ hone]
      rfl
    rw [hr]
    clear hr
    have hmy : ∀ k, mine d M k = true → k < G.length := fun k hk => by
      obtain ⟨o, h1, _⟩ := mine_ob hd hk
      exact (List.getElem?_eq_some_iff.1 h1).1
    have fin : ∀ (l : List Nat) (m k : Nat) (all : List Value), l.length = 128 → rdE M i = 0 → G.length ≤ m → SlIn (rdG G M i) (rdV G M i) m k 1 128 → cellsAt (rdG G M i) m = some all → k + 128 ≤ all.length → (all.drop k).take 128 = bts l → (∀ om, (rdG G M i)[m]? = some om → om.shared = false) →
        ∃ b o c, Value.tuple #[concE h' (rdV G M i), .int .i64 (rdE M i)] = .tuple #[.slice (some ⟨b, o, none⟩) 128 c, .int .i64 0] ∧ l.length = 128 ∧ Go.Proofs.Ytaigdbnfhehclaa.Sl w' (some ⟨b, o, none⟩) 128 c (bts l) ∧
          ∀ j, j < 128 → ¬ (∃ i_1, i_1 < (rdG G M i).length ∧ mine d M i_1 = true ∧ f' i_1 b (o + j)) ∧ w'.frozen? ⟨b, o + j, none⟩ = false ∧ (F b (o + j) ∨ w.heap.size ≤ b) := fun l m k all hl he hm h1 h2 h3 h4 h5 => by
      have hs : Sl (rdG G M i) (rdV G M i) 1 128 (bts l) := .inr ⟨m, k, all, h1, h2, by omega, by rw [Nat.mul_one]; exact h4.symm⟩
      obtain ⟨a, cap, g1, g2, g3, _⟩ := hs.at_ HO
      obtain ⟨b, o, rfl, g4⟩ := g3 (by rw [bts_length]; omega)
      refine ⟨b, o, cap, by rw [g1, he], hl, ⟨by rw [bts_length]; exact hl, g2, (fun h => by cases h), .inr ⟨b, o, rfl, fun j x hj => ?_⟩⟩, fun j hj => ⟨?_, res_soft HO h1 h2 (by omega) g1 (by omega) h5 j hj, hnew rfl m _ _ (res_foot HO h1 h2 (by omega) g1 (by omega) j hj).2 (res_foot HO h1 h2 (by omega) g1 (by omega) j hj).1⟩⟩
      · have hc := (g4 j x hj).cell
        obtain ⟨y, _, rfl⟩ := List.mem_map.1 (List.mem_of_getElem? hj)
        exact hc
      · rintro ⟨i1, q1, q2, q3⟩
        obtain ⟨o1, q4, q5⟩ := mine_ob hd q2
        have hlt := hmy i1 q2
        exact res_apart HO h1 h2 (by omega) g1 (by omega) (show i1 ≠ m by omega) (rd_keeps hd i _ _ q4) q5 j hj q3
    clear hsl
    have hlo := hA.lo i
    unfold Ab.see
    cases hl0 : A.loose i with
    | some l =>
      rw [hl0] at hlo
      have hll : l.length = 128 := by rw [← ints_len]; exact (hd.lo _ (getA_mem hlo)).1
      have eG : rdG G M i = G ++ [.ptr (u8s (ints l))] ++ [.view G.length 1 0 128] := by unfold rdG; rw [hbad, hlo]; rfl
      have eV : rdV G M i = tok (G.length + 1) := by unfold rdV; rw [hbad, hlo]; rfl
      have eE : rdE M i = 0 := by unfold rdE; rw [hbad, hlo]; rfl
      have hg : (G ++ [Ob.ptr (u8s (ints l))] ++ [Ob.view G.length 1 0 128])[G.length]? = some (.ptr (u8s (ints l))) := by
        rw [List.getElem?_append_left (by simp), List.getElem?_append_right (Nat.le_refl _), Nat.sub_self]; rfl
      refine fin l G.length 0 (u8s (ints l)) hll eE (Nat.le_refl _) ?_ ?_ ?_ ?_ (fun om ho => by rw [eG, hg] at ho; cases ho; rfl)
      · rw [eG, eV]
        refine ⟨G.length + 1, rfl, .inr ⟨?_, by omega⟩⟩
        rw [List.getElem?_append_right (by simp)]
        simp
      · rw [eG]; unfold cellsAt; rw [hg]; rfl
      · rw [ints_bts, bts_length]; omega
      · rw [List.drop_zero, ints_bts, List.take_of_length_le (by rw [bts_length]; omega)]
    | none =>
      rw [hl0] at hlo
      rcases hA.la i with ⟨h1, h2⟩ | ⟨h1, h2⟩ | ⟨r, l, h1, h2⟩
      · have eG : rdG G M i = G ++ [.ptr (u8s zs)] ++ [.row 1 128 (u8s zs)] := by unfold rdG; rw [hbad, hlo, h1]; rfl
        have eV : rdV G M i = tok (G.length + 1) := by unfold rdV; rw [hbad, hlo, h1]; rfl
        have eE : rdE M i = 0 := by unfold rdE; rw [hbad, hlo, h1]; rfl
        have hg : (G ++ [Ob.ptr (u8s zs)] ++ [Ob.row 1 128 (u8s zs)])[G.length + 1]? = some (.row 1 128 (u8s zs)) := by
          rw [List.getElem?_append_right (by simp)]; simp
        simp only [h2]
        refine fin z128 (G.length + 1) 0 (u8s zs) (by decide) eE (Nat.le_succ _) ?_ ?_ ?_ ?_ (fun om ho => by rw [eG, hg] at ho; cases ho; rfl)
        · rw [eG, eV]
          exact ⟨G.length + 1, rfl, .inl ⟨_, .inl hg, rfl, rfl⟩⟩
        · rw [eG]; unfold cellsAt; rw [hg]; rfl
        · rw [← ints_z, ints_bts, bts_length]; decide
        · rw [List.drop_zero, ← ints_z, ints_bts, List.take_of_length_le (by rw [bts_length]; decide)]
      · have eV : rdV G M i = .slice none 0 0 := by unfold rdV; rw [hbad, hlo, h1]; rfl
        have eE : rdE M i = 24 := by unfold rdE; rw [hbad, hlo, h1]; rfl
        simp only [h2]
        rw [eV, eE]
        rfl
      · have hll : l.length = 128 := by rw [← ints_len]; exact (hd.la _ _ (getA_mem h1)).2
        have eV : rdV G M i = cloneV (rdGv G r) (tok (G.length + 1)) 128 := by unfold rdV; rw [hbad, hlo, h1]; rfl
        have eG : rdG G M i = cloneG false (rdGv G r) (tok (G.length + 1)) 128 (u8s (ints l)) := by unfold rdG; rw [hbad, hlo, h1]; rfl
        have eE : rdE M i = 0 := by unfold rdE; rw [hbad, hlo, h1]; rfl
        simp only [h2]
        have eL : (rdGv G r).length = G.length + 2 := by simp [rdGv]
        have eV2 : rdV G M i = tok (G.length + 3) := by rw [eV]; show tok ((rdGv G r).length + 1) = _; rw [eL]
        have eG2 : rdG G M i = rdGv G r ++ [.dead] ++ [.row 1 128 (u8s (ints l))] := eG
        have hg : (rdGv G r ++ [Ob.dead] ++ [Ob.row 1 128 (u8s (ints l))])[G.length + 3]? = some (.row 1 128 (u8s (ints l))) := by
          rw [List.getElem?_append_right (by simp [eL])]; simp [eL]
        refine fin l (G.length + 3) 0 (u8s (ints l)) hll eE (by omega) ?_ ?_ ?_ ?_ (fun om ho => by rw [eG2, hg] at ho; cases ho; rfl)
        · rw [eG2, eV2]
          exact ⟨G.length + 3, rfl, .inl ⟨_, .inl hg, rfl, rfl⟩⟩
        · rw [eG2]; unfold cellsAt; rw [hg]; rfl
        · rw [ints_bts, bts_length]; omega
        · rw [List.drop_zero, ints_bts, List.take_of_length_le (by rw [bts_length]; omega)]
  · rintro en w' ⟨A', h', r, F', rfl, ⟨rfl, hv⟩, h1, h2, h3⟩
    refine ⟨F', h1, h2, h3, ?_⟩
    split at hv
    · obtain ⟨b, o, c, e, h4⟩ := hv
      exact ⟨b, o, c, by rw [e], h4⟩
    · rw [hv]
/-- New. -/
def ab0 : Ab := ⟨fun _ => some z128, fun _ => none, false, -1, 0⟩
theorem absA_new (n : Nat) : AbsA (newM n) ab0 := ⟨fun k => .inl ⟨rfl, rfl⟩, fun k => rfl, rfl, rfl, rfl⟩
theorem new_w (w : World) : Calls Try.prog 7 #[] w fun en w' => ∃ b o F, en = .returned (.pointer (some ⟨b, o, none⟩)) ∧ DW w' F (.pointer (some ⟨b, o, none⟩)) ab0 ∧ Below w.heap.size w w' ∧ ∀ i x, F i x → w.heap.size ≤ i := by
  have H : Objs w (fun _ => ⟨.bool false, rfl⟩) (fun _ _ => False) [] (fun _ _ _ => False) := ⟨fun i o ho => by simp at ho, fun i j _ _ hi => by simp at hi, fun b x => ⟨fun h => h.elim, fun ⟨_, _, h⟩ => h⟩⟩
  have k := calls_con new_holds (by kernel_rfl) H (l := []) (fun v hv => by simp at hv) (e := (Env.ofL [.int .i64 (([] : List Ob).length + 2 : Nat)]).ans (encG (newG []))) ⟨rfl, rfl, rfl⟩
  refine k.mono ?_
  rintro en w' ⟨h', F', f', G', g1, g2, g3, g4, g5, g6, g7⟩
  obtain rfl : newG [] = G' := encG_inj g2
  have hd := new_is []
  have hv := concE_at h' 2 0
  obtain ⟨b, o, hb⟩ := hatV_form (h' 2).val
  refine ⟨b, o, _, ?_, by rw [show Value.pointer (some ⟨b, o, none⟩) = concE h' (tokAt (([] : List Ob).length + 2) 0) by rw [show ([] : List Ob).length + 2 = 2 from rfl, hv]; exact (hb 0).symm]; exact dw_of g4 hd (absA_new _), g3.below fun _ _ _ h => h, ?_⟩
  · rw [g1]
    show Ending.returned (concE h' (tokAt 2 0)) = _
    rw [hv, hb 0]
    rfl
  · rintro i x ⟨k, q1, q2, q3⟩
    rcases g5 i x ((g4.foot i x).2 ⟨k, q1, q3⟩) with h | h
    · exact h.elim
    · exact h
/-- Crash: what lasts of a loose sector is what lasted, or what was loose, or it is torn. -/
structure CrashTo (A : Ab) (keep : List Int) (A' : Ab) : Prop where
  last : ∀ k, A'.last k = A.last k ∨ ∃ l, A.loose k = some l ∧ (A'.last k = some l ∨ A'.last k = none)
  old : keep = [] → A'.last = A.last
  loose : ∀ k, A'.loose k = none
  off : A'.off = false
  left : A'.left = -1
  done : A'.done = A.done
/-- One sector's fate. -/
theorem one_abs {s : List Ob × DiskM} {A B : Ab} (h : AbsA s.2 B) (hlo : B.loose = A.loose) (hla : ∀ k, B.last k = A.last k ∨ ∃ l, A.loose k = some l ∧ (B.last k = some l ∨ B.last k = none)) {k : Int} (hk : ∃ l, A.loose k = some l) (f : Int) :
    ∃ B', AbsA (crOne s k f).2 B' ∧ B'.loose = A.loose ∧ B'.off = B.off ∧ B'.left = B.left ∧ B'.done = B.done ∧ (f ≠ 1 → f ≠ 2 → B' = B) ∧ ∀ k, B'.last k = A.last k ∨ ∃ l, A.loose k = some l ∧ (B'.last k = some l ∨ B'.last k = none) := by
  obtain ⟨l, hl⟩ := hk
  unfold crOne
  by_cases h1 : f = 1
  · rw [if_pos h1]
    have hb : bytesOf s.2 k = ints l := by unfold bytesOf; rw [h.lo, hlo, hl]; rfl
    refine ⟨{ B with last := fun j => if j = k then some l else B.last j }, ⟨fun j => ?_, h.lo, h.off, h.left, h.done⟩, hlo, rfl, rfl, rfl, fun e => absurd h1 e, fun j => ?_⟩
    · show (getA (putA s.2.la k (some (s.1.length, bytesOf s.2 k))) j = none ∧ _) ∨ (getA (putA s.2.la k _) j = some none ∧ _) ∨ ∃ r l', getA (putA s.2.la k _) j = some (some (r, ints l')) ∧ _
      rw [getA_put, hb]
      by_cases e : j = k
      · rw [if_pos e]; exact .inr (.inr ⟨_, l, rfl, by simp [e]⟩)
      · rw [if_neg e]; simp only [e, if_false]; exact h.la j
    · by_cases e : j = k
      · subst e; exact .inr ⟨l, hl, .inl (by simp)⟩
      · simp only [e, if_false]; exact hla j
  · rw [if_neg h1]
    by_cases h2 : f = 2
    · rw [if_pos h2]
      refine ⟨{ B with last := fun j => if j = k then none else B.last j }, ⟨fun j => ?_, h.lo, h.off, h.left, h.done⟩, hlo, rfl, rfl, rfl, fun _ e => absurd h2 e, fun j => ?_⟩
      · show (getA (putA s.2.la k none) j = none ∧ _) ∨ (getA (putA s.2.la k none) j = some none ∧ _) ∨ ∃ r l', getA (putA s.2.la k none) j = some (some (r, ints l')) ∧ _
        rw [getA_put]
        by_cases e : j = k
        · rw [if_pos e]; exact .inr (.inl ⟨rfl, by simp [e]⟩)
        · rw [if_neg e]; simp only [e, if_false]; exact h.la j
      · by_cases e : j = k
        · subst e; exact .inr ⟨l, hl, .inr (by simp)⟩
        · simp only [e, if_false]; exact hla j
    · rw [if_neg h2]
      exact ⟨B, h, hlo, rfl, rfl, rfl, fun _ _ => rfl, hla⟩
theorem crS_abs {A : Ab} (keep : List Int) : ∀ (ks : List Int) (n : Nat) (s : List Ob × DiskM) (B : Ab), (∀ k ∈ ks, ∃ l, A.loose k = some l) → AbsA s.2 B → B.loose = A.loose → (∀ k, B.last k = A.last k ∨ ∃ l, A.loose k = some l ∧ (B.last k = some l ∨ B.last k = none)) →
    ∃ B', AbsA (crS keep ks n s).2 B' ∧ B'.loose = A.loose ∧ B'.off = B.off ∧ B'.left = B.left ∧ B'.done = B.done ∧ (keep = [] → B' = B) ∧ ∀ k, B'.last k = A.last k ∨ ∃ l, A.loose k = some l ∧ (B'.last k = some l ∨ B'.last k = none)
  | [], _, _, B, _, h, h1, h2 => ⟨B, h, h1, rfl, rfl, rfl, fun _ => rfl, h2⟩
  | k :: r, n, s, B, hk, h, h1, h2 => by
    obtain ⟨B1, a1, a2, a3, a4, a5, a6, a7⟩ := one_abs h h1 h2 (hk k (List.mem_cons_self ..)) (fateK keep n)
    obtain ⟨B2, b1, b2, b3, b4, b5, b6, b7⟩ := crS_abs keep r (n + 1) (crOne s k (fateK keep n)) B1 (fun k hk' => hk k (List.mem_cons_of_mem _ hk')) a1 a2 a7
    refine ⟨B2, b1, b2, b3.trans a3, b4.trans a4, b5.trans a5, fun e => ?_, b7⟩
    rw [b6 e]
    subst e
    exact a6 (by unfold fateK; simp) (by unfold fateK; simp)
theorem crash_abs {G : List Ob} {d : Nat} {M : DiskM} {A : Ab} (h : AbsA M A) (keep : List Int) : ∃ A', AbsA (crash G d M keep).2 A' ∧ CrashTo A keep A' := by
  obtain ⟨B, a1, a2, a3, a4, a5, a6, a7⟩ := crS_abs (A := A) keep (keyL M.lo) 0 (crG0 G M, M) A (fun k hk => by
    unfold keyL at hk
    rw [List.mem_mergeSort] at hk
    cases hl : A.loose k with
    | some l => exact ⟨l, rfl⟩
    | none =>
      have := h.lo k
      rw [hl] at this
      exact absurd hk (getA_none.1 this)) h rfl (fun k => .inl rfl)
  refine ⟨⟨B.last, fun _ => none, false, -1, B.done⟩, ⟨a1.la, fun k => rfl, rfl, rfl, a1.done⟩, ⟨a7, fun e => by rw [a6 e], fun k => rfl, rfl, rfl, a5⟩⟩
theorem plain_i64 (l : List Int) : Plain (l.map (Value.int .i64)) := fun c hc => by
  obtain ⟨n, _, rfl⟩ := List.mem_map.1 hc
  exact ⟨_, _, rfl⟩
theorem crash_w {w : World} {F : Foot} {dv : Value} {A : Ab} (H : DW w F dv A) {ao : Option Addr} {n c : Nat} {keep : List Int} (hsl : Go.Proofs.Ytaigdbnfhehclaa.Sl w ao n c (keep.map (Value.int .i64))) (hap : ∀ b o j, ao = some ⟨b, o, none⟩ → j < n → ¬ F b (o + j)) :
    Calls Try.prog 16 #[dv, .slice ao n c] w fun en w' => ∃ A', CrashTo A keep A' ∧ Did F w dv A' (.tuple #[]) en w' := by
  have hln : keep.length = n := by rw [← hsl.len, List.length_map]
  refine (dw_call cra_holds (by kernel_rfl) H (plain_i64 keep) hsl hap (args := fun d v => [tokAt d 0, v]) (Post := fun A' h' r _ _ => CrashTo A keep A' ∧ concE h' r = .tuple #[]) ?_ ?_ ?_).mono ?_
  · intro h d v e1 e2
    simp only [List.map_cons, List.map_nil, e1, e2]
  · intro h n d v i1 i2 u hu
    simp only [List.mem_cons, List.not_mem_nil, or_false] at hu
    rcases hu with rfl | rfl
    · exact i1
    · exact i2
  · intro G d M v hd hA hs
    obtain ⟨A', h1, h2⟩ := crash_abs (G := G) (d := d) hA keep
    refine ⟨(Env.ofL []).ans (encG (crash G d M keep).1), (crash G d M keep).2, (crash G d M keep).1, A', ⟨d, M, v, keep, rfl, hd, by rw [hln]; exact hs, rfl⟩, rfl, cra_step hd keep, h1, fun _ _ _ _ _ _ => ⟨h2, tup_nil _ _⟩⟩
  · rintro en w' ⟨A', h', r, F', rfl, ⟨hc, hv⟩, h1, h2, h3⟩
    exact ⟨A', hc, by rw [hv], F', h1, h2, h3⟩
end Sx
end Go.Proofs.Ytaigdbnfhehclaa
