/- What is proved: the contract of the disk's Sync; the contract of the disk's Sync. No condition but those each law names. -/
import Derived.Test.YtaigdbnfhehclaaA3
namespace Go.Proofs.Ytaigdbnfhehclaa
open Go.RowKit Sx
set_option maxRecDepth 100000

/-- A store turns, here and there, and grows. -/
theorem objs_turn {w w' : World} {h h' : Nat → OneV} {F S : Foot} {G G' : List Ob} {f f' : Nat → Foot} {T : Nat → Prop} (H : Objs w h F G f) (hS : Fr S w w') (hle : G.length ≤ G'.length) (hh : ∀ n, n < G.length → h' n = h n)
    (hT : ∀ b x, b < w.heap.size → S b x → ∃ (i : Nat) (o : Ob), T i ∧ G[i]? = some o ∧ o.shared = false ∧ f i b x) (hkeep : ∀ i, i < G.length → ¬ T i → G'[i]? = G[i]?)
    (hob : ∀ (i : Nat) o, G'[i]? = some o → T i ∨ G.length ≤ i → HoldsOb w' h' G'.length (h' i).val (f' i) o ∧ o.shared = false) (hf : ∀ i, i < G.length → f' i = f i)
    (hnew : ∀ i b x, G.length ≤ i → i < G'.length → f' i b x → w.heap.size ≤ b) (hsep : ∀ i j, G.length ≤ i → i < G'.length → G.length ≤ j → j < G'.length → i ≠ j → ∀ b x, f' i b x → ¬ f' j b x) (hTs : ∀ (i : Nat) o, T i → G[i]? = some o → o.shared = false) :
    ∃ F', Objs w' h' F' G' f' ∧ ∀ b x, F' b x → F b x ∨ w.heap.size ≤ b := by
  have old : ∀ (i : Nat) o, i < G.length → G'[i]? = some o → ∃ p, G[i]? = some p ∧ (o.shared = true → p.shared = true) := fun i o hi ho => by
    by_cases hTi : T i
    · refine ⟨_, List.getElem?_eq_getElem hi, fun hs => ?_⟩
      rw [(hob i o ho (.inl hTi)).2] at hs
      cases hs
    · rw [hkeep i hi hTi] at ho
      exact ⟨o, ho, id⟩
  refine ⟨fun b x => ∃ i, i < G'.length ∧ f' i b x, ⟨fun i o ho => ?_, fun i j o p hi hj hne hsh b x hib hjb => ?_, fun b x => Iff.rfl⟩, fun b x hF => ?_⟩
  · by_cases hlt : i < G.length
    · by_cases hTi : T i
      · exact (hob i o ho (.inl hTi)).1
      · rw [hkeep i hlt hTi] at ho
        rw [hf i hlt, hh i hlt]
        have h0 := H.ob i o ho
        refine ((h0.keep hS (fun b x hfb hs => ?_) fun _ _ hf => h0.below hf).same hh).mono hle
        obtain ⟨j, p, h1, h2, h3, h4⟩ := hT b x (h0.below hfb) hs
        exact H.apart i j o p ho h2 (fun e => hTi (e ▸ h1)) (by rw [h3, Bool.and_false]) b x hfb h4
    · exact (hob i o ho (.inr (Nat.le_of_not_lt hlt))).1
  · have li := (List.getElem?_eq_some_iff.1 hi).1
    have lj := (List.getElem?_eq_some_iff.1 hj).1
    by_cases h1 : i < G.length
    · by_cases h2 : j < G.length
      · rw [hf i h1] at hib
        rw [hf j h2] at hjb
        obtain ⟨o', ho', hos⟩ := old i o h1 hi
        obtain ⟨p', hp', hps⟩ := old j p h2 hj
        by_cases hq : (o'.shared && p'.shared) = true
        · simp only [Bool.and_eq_true] at hq
          have ti : ¬ T i := fun ht => by rw [hTs i o' ht ho'] at hq; exact absurd hq.1 (by simp)
          have tj : ¬ T j := fun ht => by rw [hTs j p' ht hp'] at hq; exact absurd hq.2 (by simp)
          rw [hkeep i h1 ti, ho'] at hi
          rw [hkeep j h2 tj, hp'] at hj
          cases hi
          cases hj
          simp [hq] at hsh
        · exact H.apart i j o' p' ho' hp' hne (by simpa using hq) b x hib hjb
      · rw [hf i h1] at hib
        have := H.below h1 hib
        have := hnew j b x (by omega) lj hjb
        omega
    · by_cases h2 : j < G.length
      · rw [hf j h2] at hjb
        have := H.below h2 hjb
        have := hnew i b x (by omega) li hib
        omega
      · exact hsep i j (by omega) li (by omega) lj hne b x hib hjb
  · obtain ⟨i, hi, hfi⟩ := hF
    by_cases h1 : i < G.length
    · rw [hf i h1] at hfi
      exact .inl ((H.foot b x).2 ⟨i, h1, hfi⟩)
    · exact .inr (hnew i b x (by omega) hi hfi)
/-- What lasts behind a Sync. -/
def syLa : List (Int × Option (Nat × List Int)) → List (Int × List Int) → Nat → List (Int × Option (Nat × List Int))
  | la, [], _ => la
  | la, p :: r, n => syLa (putA la p.1 (some (n, p.2))) r (n + 1)
def syM (M : DiskM) (n : Nat) : DiskM := { M with la := syLa M.la M.lo n, lo := [], done := inc M.done }
def syG (G : List Ob) (d : Nat) (M : DiskM) : List Ob := (((G ++ M.lo.map fun p => Ob.ptr (u8s p.2)).set d (.ptr (syM M G.length).cells)).set M.m1 (.map (encA laC (syM M G.length).la))).set M.m2 (.map [])
theorem syLa_out {lo : List (Int × List Int)} {k : Int} (h : getA lo k = none) (la : List (Int × Option (Nat × List Int))) (n : Nat) : getA (syLa la lo n) k = getA la k := by
  induction lo generalizing la n with
  | nil => rfl
  | cons p r ih =>
    unfold getA at h
    split at h
    · cases h
    · rename_i e
      unfold syLa
      rw [ih h, getA_put, if_neg e]
theorem syLa_in {lo : List (Int × List Int)} (hn : (lo.map (·.1)).Nodup) {j : Nat} {p : Int × List Int} (h : lo[j]? = some p) (la : List (Int × Option (Nat × List Int))) (n : Nat) : getA (syLa la lo n) p.1 = some (some (n + j, p.2)) := by
  induction lo generalizing la n j with
  | nil => cases h
  | cons q r ih =>
    unfold syLa
    rw [List.map_cons, List.nodup_cons] at hn
    cases j with
    | zero =>
      cases h
      rw [syLa_out (getA_none.2 hn.1), getA_put, if_pos rfl]
      rfl
    | succ j =>
      rw [ih hn.2 h, Nat.add_assoc, Nat.add_comm 1]
theorem syLa_nodup {lo : List (Int × List Int)} {la : List (Int × Option (Nat × List Int))} {n : Nat} (h : (la.map (·.1)).Nodup) : ((syLa la lo n).map (·.1)).Nodup := by
  induction lo generalizing la n with
  | nil => exact h
  | cons p r ih =>
    unfold syLa
    exact ih (putA_nodup h)
theorem syLa_mem {lo : List (Int × List Int)} {la : List (Int × Option (Nat × List Int))} {n : Nat} {p : Int × Option (Nat × List Int)} (h : p ∈ syLa la lo n) : p ∈ la ∨ ∃ j q, lo[j]? = some q ∧ p = (q.1, some (n + j, q.2)) := by
  induction lo generalizing la n with
  | nil => exact .inl h
  | cons q r ih =>
    unfold syLa at h
    rcases ih h with h | ⟨j, q', h1, h2⟩
    · rcases putA_mem h with h | h
      · exact .inr ⟨0, q, rfl, h⟩
      · exact .inl h
    · exact .inr ⟨j + 1, q', h1, by rw [h2, Nat.add_assoc, Nat.add_comm 1]⟩
theorem nodup_inj {α β : Type} {f : α → β} (hf : ∀ a b, f a = f b → a = b) {l : List α} : (l.map f).Nodup ↔ l.Nodup := by
  unfold List.Nodup
  rw [List.pairwise_map]
  exact ⟨fun h => h.imp fun hn e => hn (by rw [e]), fun h => h.imp fun hn e => hn (hf _ _ e)⟩
theorem encA_keys {α : Type} {c : α → Value} {l : List (Int × α)} (h : (l.map (·.1)).Nodup) : ((encA c l).map (·.1)).Nodup := by
  unfold encA
  rw [List.map_map]
  have : ((fun x : Value × Value => x.1) ∘ fun p : Int × α => (Value.int .i64 p.1, c p.2)) = (fun k => Value.int .i64 k) ∘ fun p => p.1 := rfl
  rw [this, ← List.map_map]
  exact (nodup_inj (fun a b hab => by injection hab)).2 h
theorem keys_of_enc {α : Type} {c : α → Value} {l : List (Int × α)} (h : ((encA c l).map (·.1)).Nodup) : (l.map (·.1)).Nodup := by
  unfold encA at h
  rw [List.map_map] at h
  have : ((fun x : Value × Value => x.1) ∘ fun p : Int × α => (Value.int .i64 p.1, c p.2)) = (fun k => Value.int .i64 k) ∘ fun p => p.1 := rfl
  rw [this, ← List.map_map] at h
  exact (nodup_inj (fun a b hab => by injection hab)).1 h
theorem syG_len (G : List Ob) (d : Nat) (M : DiskM) : (syG G d M).length = G.length + M.lo.length := by simp [syG]
section
variable {G : List Ob} {d : Nat} {M : DiskM}
theorem syG_new (h0 : d < G.length) (h1 : M.m1 < G.length) (h2 : M.m2 < G.length) (j : Nat) : (syG G d M)[G.length + j]? = (M.lo[j]?).map fun p => Ob.ptr (u8s p.2) := by
  unfold syG
  rw [List.getElem?_set_ne (by omega), List.getElem?_set_ne (by omega), List.getElem?_set_ne (by omega), List.getElem?_append_right (by omega), Nat.add_sub_cancel_left, List.getElem?_map]
theorem syG_old {i : Nat} (hi : i < G.length) (h0 : i ≠ d) (h1 : i ≠ M.m1) (h2 : i ≠ M.m2) : (syG G d M)[i]? = G[i]? := by
  unfold syG
  rw [List.getElem?_set_ne (Ne.symm h2), List.getElem?_set_ne (Ne.symm h1), List.getElem?_set_ne (Ne.symm h0), List.getElem?_append_left hi]
theorem syG_d (h0 : d < G.length) (h1 : d ≠ M.m1) (h2 : d ≠ M.m2) : (syG G d M)[d]? = some (.ptr (syM M G.length).cells) := by
  unfold syG
  rw [List.getElem?_set_ne (Ne.symm h2), List.getElem?_set_ne (Ne.symm h1), List.getElem?_set_self (by rw [List.length_append]; omega)]
theorem syG_m1 (h0 : M.m1 < G.length) (h2 : M.m1 ≠ M.m2) : (syG G d M)[M.m1]? = some (.map (encA laC (syM M G.length).la)) := by
  unfold syG
  rw [List.getElem?_set_ne (Ne.symm h2), List.getElem?_set_self (by rw [List.length_set, List.length_append]; omega)]
theorem syG_m2 (h0 : M.m2 < G.length) : (syG G d M)[M.m2]? = some (.map []) := by
  unfold syG
  rw [List.getElem?_set_self (by rw [List.length_set, List.length_set, List.length_append]; omega)]
end
/-- The object of a sector, in a store that Sync leaves. -/
def syH (h : Nat → OneV) (n : Nat) (lo : List (Int × List Int)) (bl : Int → Option Nat) : Nat → OneV := fun i =>
  if i < n then h i else match lo[i - n]? with | some p => Sx.ptrV ((bl p.1).getD 0) 0 | none => h i
theorem sync_objs {w w2 : World} {h : Nat → OneV} {F : Foot} {G : List Ob} {f : Nat → Foot} {d : Nat} {M : DiskM} (H : Objs w h F G f) (hd : IsDisk G d M) {bd od r1 r2 : Nat} {bl : Int → Option Nat} (e0 : (h d).val = .pointer (some ⟨bd, od, none⟩)) (e1 : (h M.m1).val = .map (some r1)) (e2 : (h M.m2).val = .map (some r2))
    (hS : Synced w w2 bd od r1 r2 M.done ((encA laC M.la).map fun p => (p.1, concE h p.2)) M.lo bl) :
    ∃ h' F' f', Fr F w w2 ∧ Objs w2 h' F' (syG G d M) f' ∧ (∀ i x, F' i x → F i x ∨ w.heap.size ≤ i) ∧ ∀ n, n < G.length → h' n = h n := by
  obtain ⟨b0, o0, p0, p1, p2, p3⟩ := H.ob d _ hd.ob
  obtain ⟨b1, es1, cl1, q0, q1, q2, q3, q4⟩ := H.ob M.m1 _ hd.ma
  obtain ⟨b2, es2, cl2, t0, t1, t2, t3, t4⟩ := H.ob M.m2 _ hd.mo
  rw [e0] at p0
  rw [e1] at q0
  rw [e2] at t0
  cases p0
  cases q0
  cases t0
  have hld := (List.getElem?_eq_some_iff.1 hd.ob).1
  have hl1 := (List.getElem?_eq_some_iff.1 hd.ma).1
  have hl2 := (List.getElem?_eq_some_iff.1 hd.mo).1
  have hnd1 : d ≠ M.m1 := fun e => by have := hd.ob; rw [e, hd.ma] at this; cases this
  have hnd2 : d ≠ M.m2 := fun e => by have := hd.ob; rw [e, hd.mo] at this; cases this
  have cd : ∀ (j : Nat) c, M.cells[j]? = some c → j < 5 ∧ CellN w h G.length bd (od + j) c ∧ w.frozen? ⟨bd, od + j, none⟩ = false := fun j c hj => ⟨(List.getElem?_eq_some_iff.1 hj).1, p2 j c hj⟩
  have nb1 : bd ≠ r1 := fun e => cell_not_map (cd 0 _ rfl).2.1.cell (e ▸ q1)
  have nb2 : bd ≠ r2 := fun e => cell_not_map (cd 0 _ rfl).2.1.cell (e ▸ t1)
  have bl0 := cell_some_lt (cd 0 _ rfl).2.1.cell
  have hnl : (M.lo.map (·.1)).Nodup := by
    have := t2.1.2
    rw [List.map_map] at this
    exact keys_of_enc (c := loC) this
  have hnl1 : (M.la.map (·.1)).Nodup := by
    have := q2.1.2
    rw [List.map_map] at this
    exact keys_of_enc (c := laC) this
  have hget : ∀ (j : Nat) p, M.lo[j]? = some p → ∃ b, bl p.1 = some b ∧ w.heap.size ≤ b ∧ SecAt w2 b p.2 := fun j p hj => by
    have hg := getA_at hnl (List.mem_of_getElem? hj)
    obtain ⟨b, hb⟩ := Option.isSome_iff_exists.1 (hS.all p.1 (by rw [hg]; rfl))
    obtain ⟨x1, x2, bs, x3, x4⟩ := hS.at_ _ _ hb
    rw [hg] at x3
    cases x3
    exact ⟨b, hb, x1, x4⟩
  have hh : ∀ n, n < G.length → syH h G.length M.lo bl n = h n := fun n hn => if_pos hn
  have hn' : ∀ (j : Nat) p b, M.lo[j]? = some p → bl p.1 = some b → (syH h G.length M.lo bl (G.length + j)).val = .pointer (some ⟨b, 0, none⟩) := fun j p b hj hb => by
    unfold syH
    rw [if_neg (by omega), Nat.add_sub_cancel_left, hj]
    show (Sx.ptrV ((bl p.1).getD 0) 0).val = _
    rw [hb]
    rfl
  have hlen := syG_len G d M
  have hfr : Fr F w w2 := hS.fr.mono fun i x hi hx => by
    rcases hx with rfl | rfl | ⟨rfl, rfl⟩
    · exact (H.foot _ _).2 ⟨_, hl1, (q4 _ _).2 rfl⟩
    · exact (H.foot _ _).2 ⟨_, hl2, (t4 _ _).2 rfl⟩
    · exact (H.foot _ _).2 ⟨_, hld, (p3 _ _).2 ⟨rfl, by omega, by show od + 4 < od + 5; omega⟩⟩
  have hcell : ∀ (j : Nat) c, M.cells[j]? = some c → j ≠ 4 → CellN w2 (syH h G.length M.lo bl) (syG G d M).length bd (od + j) c ∧ w2.frozen? ⟨bd, od + j, none⟩ = false := fun j c hj hne => by
    obtain ⟨_, x1, x2⟩ := cd j c hj
    exact ⟨((x1.keep (hS.fr.cell bd (od + j) bl0 (by omega))).same hh).mono (by omega), (hS.fr.frozen _ _ (by rw [x1.cell]; rfl)).trans x2⟩
  refine Exists.elim (objs_turn (f' := fun i => if i < G.length then f i else fun b x => ∃ p, M.lo[i - G.length]? = some p ∧ bl p.1 = some b ∧ x < 128) (T := fun i => i = d ∨ i = M.m1 ∨ i = M.m2) (G' := syG G d M) H hS.fr (by omega) hh ?_ ?_ ?_ ?_ ?_ ?_ ?_) fun F' hx => ⟨_, F', _, hfr, hx.1, hx.2, hh⟩
  · intro b x hb hs
    rcases hs with rfl | rfl | ⟨rfl, rfl⟩
    · exact ⟨_, _, .inr (.inl rfl), hd.ma, rfl, (q4 _ _).2 rfl⟩
    · exact ⟨_, _, .inr (.inr rfl), hd.mo, rfl, (t4 _ _).2 rfl⟩
    · exact ⟨_, _, .inl rfl, hd.ob, rfl, (p3 _ _).2 ⟨rfl, by omega, by show od + 4 < od + 5; omega⟩⟩
  · intro i hi hT
    exact syG_old hi (fun e => hT (.inl e)) (fun e => hT (.inr (.inl e))) (fun e => hT (.inr (.inr e)))
  · intro i o ho hT
    by_cases hi : i < G.length
    · rw [if_pos hi]
      rcases hT with (rfl | rfl | rfl) | hT
      · rw [syG_d hld hnd1 hnd2] at ho
        cases ho
        refine ⟨⟨bd, od, by rw [hh _ hld]; exact e0, by show 0 < 5; omega, fun j c hj => ?_, p3⟩, rfl⟩
        match j, hj with
        | 0, hj => cases hj; exact hcell 0 _ rfl (by omega)
        | 1, hj => cases hj; exact hcell 1 _ rfl (by omega)
        | 2, hj => cases hj; exact hcell 2 _ rfl (by omega)
        | 3, hj => cases hj; exact hcell 3 _ rfl (by omega)
        | 4, hj => cases hj; exact ⟨⟨hS.c4, rfl, Inv.of_const fun _ => rfl⟩, (hS.fr.frozen _ _ (by rw [(cd 4 _ rfl).2.1.cell]; rfl)).trans (cd 4 _ rfl).2.2⟩
        | j + 5, hj => cases hj
      · rw [syG_m1 hl1 hd.ne] at ho
        cases ho
        obtain ⟨es, c, l', x1, x2, x3, x4, x5⟩ := hS.m1
        have hold : ∀ k v, getA M.la k = some v → concE (syH h G.length M.lo bl) (laC v) = concE h (laC v) := fun k v hv => q3 (.int .i64 k, laC v) (List.mem_map.2 ⟨_, getA_mem hv, rfl⟩) _ hh
        have hkey : ∀ k : Int, getL l' (.int .i64 k) = getL ((encA laC (syM M G.length).la).map fun p => (p.1, concE (syH h G.length M.lo bl) p.2)) (.int .i64 k) := fun k => by
          rw [x5 k, getL_map, getL_map, getL_enc, getL_enc]
          show _ = ((getA (syLa M.la M.lo G.length) k).map laC).map _
          cases hg : getA M.lo k with
          | none =>
            have hb : bl k = none := by
              cases hb : bl k with
              | none => rfl
              | some b =>
                obtain ⟨_, _, bs, y, _⟩ := hS.at_ k b hb
                rw [hg] at y
                cases y
            rw [hb, syLa_out hg]
            cases hv : getA M.la k with
            | none => rfl
            | some v => exact congrArg some (hold k v hv).symm
          | some bs =>
            obtain ⟨j, hj⟩ := List.getElem?_of_mem (getA_mem hg)
            obtain ⟨b, hb, _⟩ := hget j _ hj
            have := syLa_in hnl hj M.la G.length
            simp only at this hb
            rw [hb, this]
            show some _ = some (concE _ (tokAt (G.length + j) 0))
            rw [concE_at, hn' j _ b hj hb]
            rfl
        have hks : ∀ p ∈ (encA laC (syM M G.length).la).map (fun p => (p.1, concE (syH h G.length M.lo bl) p.2)), IntK p.1 := fun p hp => by
          obtain ⟨q, hq, rfl⟩ := List.mem_map.1 hp
          exact encA_int _ _ q hq
        have hno : ∀ (l : List (Value × Value)) (k : Value), (∀ p ∈ l, IntK p.1) → ¬ IntK k → getL l k = none := fun l k hl hk => getL_none.2 fun hm => by
          obtain ⟨p, hp, rfl⟩ := List.mem_map.1 hm
          exact hk (hl p hp)
        have hnd' : (((encA laC (syM M G.length).la).map fun p => (p.1, concE (syH h G.length M.lo bl) p.2)).map (·.1)).Nodup := by
          rw [List.map_map]
          exact encA_keys (syLa_nodup hnl1)
        have hperm := perm_of_get x2.2 hnd' fun k => by
          by_cases hk : IntK k
          · obtain ⟨n, rfl⟩ := hk
            exact hkey n
          · rw [hno _ _ x4 hk, hno _ _ hks hk]
        refine ⟨⟨r1, es, c, by rw [hh _ hl1]; exact e1, x1, ⟨⟨x2.1.trans hperm, hnd'⟩, x3⟩, fun p hp => ?_, q4⟩, rfl⟩
        obtain ⟨q, hq, rfl⟩ := List.mem_map.1 hp
        rcases syLa_mem hq with hq | ⟨j, p, hj, rfl⟩
        · exact ((q3 _ (List.mem_map.2 ⟨q, hq, rfl⟩)).same hh).mono (by omega)
        · have := (List.getElem?_eq_some_iff.1 hj).1
          exact Inv.at_ (by omega)
      · rw [syG_m2 hl2] at ho
        cases ho
        obtain ⟨c, hc⟩ := hS.m2
        exact ⟨⟨r2, #[], c, by rw [hh _ hl2]; exact e2, hc, ⟨⟨List.Perm.refl _, List.nodup_nil⟩, MapKept.stamped_empty _⟩, fun p hp => (by cases hp), t4⟩, rfl⟩
      · omega
    · obtain ⟨j, rfl⟩ : ∃ j, i = G.length + j := ⟨i - G.length, by omega⟩
      rw [syG_new hld hl1 hl2] at ho
      cases hj : M.lo[j]? with
      | none => rw [hj] at ho; cases ho
      | some p =>
        rw [hj] at ho
        cases ho
        obtain ⟨b, hb, hle, hsec⟩ := hget j p hj
        have hl := (hd.lo p (List.mem_of_getElem? hj)).1
        rw [if_neg hi]
        refine ⟨⟨b, 0, hn' j p b hj hb, by rw [List.length_map]; omega, fun x c hx => ?_, fun i x => ?_⟩, rfl⟩
        · rw [List.getElem?_map] at hx
          cases hy : p.2[x]? with
          | none => rw [hy] at hx; cases hx
          | some y =>
            rw [hy] at hx
            cases hx
            rw [Nat.zero_add]
            exact ⟨⟨(hsec x y hy).1, rfl, Inv.of_const fun _ => rfl⟩, (hsec x y hy).2⟩
        · rw [Nat.add_sub_cancel_left, hj, List.length_map, hl]
          constructor
          · rintro ⟨q, h1, h2, h3⟩
            cases h1
            rw [hb] at h2
            cases h2
            exact ⟨rfl, Nat.zero_le _, by omega⟩
          · rintro ⟨rfl, _, h3⟩
            exact ⟨p, rfl, hb, by omega⟩
  · intro i hi
    rw [if_pos hi]
  · intro i b x hi hi' hf
    rw [if_neg (by omega)] at hf
    obtain ⟨p, h1, h2, _⟩ := hf
    obtain ⟨b', h3, h4, _⟩ := hget _ p h1
    rw [h2] at h3
    cases h3
    exact h4
  · intro i j hi hi' hj hj' hne b x hf hg
    rw [if_neg (by omega)] at hf hg
    obtain ⟨p, h1, h2, _⟩ := hf
    obtain ⟨q, h3, h4, _⟩ := hg
    have := hS.inj _ _ _ h2 h4
    have hi2 := (List.getElem?_eq_some_iff.1 h1).1
    have hj2 := (List.getElem?_eq_some_iff.1 h3).1
    refine hne ?_
    have h5 : (M.lo.map (·.1))[i - G.length]? = (M.lo.map (·.1))[j - G.length]? := by rw [List.getElem?_map, List.getElem?_map, h1, h3]; show some p.1 = some q.1; rw [this]
    have := (List.getElem?_inj (by rw [List.length_map]; exact hi2) hnl).1 h5
    omega
  · intro i o hT ho
    rcases hT with rfl | rfl | rfl
    · rw [hd.ob] at ho; cases ho; rfl
    · rw [hd.ma] at ho; cases ho; rfl
    · rw [hd.mo] at ho; cases ho; rfl
end Go.Proofs.Ytaigdbnfhehclaa

namespace Go.Proofs.Ytaigdbnfhehclaa
open Go.RowKit Sx
set_option maxRecDepth 100000

def sycE (M : DiskM) : Int := if M.off then 9 else if strB M then 9 else 0
def sycM (M : DiskM) (n : Nat) : DiskM := if M.off then M else if strB M then strM M else syM (strM M) n
def sycG (G : List Ob) (d : Nat) (M : DiskM) : List Ob := if M.off then G else if strB M then strG G d M else syG (strG G d M) d (strM M)
def sycR (G : List Ob) (l : List Value) (e : Env) : Prop := ∃ d M, l = [tokAt d 0] ∧ IsDisk G d M ∧ e.i 0 = sycE M ∧ e.g gv = encG (sycG G d M)
def sycC : Con := mkCon 14 [] (.int .i64 (.var 0)) 2
theorem strM_flds (M : DiskM) : (strM M).la = M.la ∧ (strM M).lo = M.lo ∧ (strM M).done = M.done ∧ (strM M).m1 = M.m1 ∧ (strM M).m2 = M.m2 := by
  unfold strM
  split <;> exact ⟨rfl, rfl, rfl, rfl, rfl⟩
theorem strG_len (G : List Ob) (d : Nat) (M : DiskM) : (strG G d M).length = G.length := by
  unfold strG
  split <;> simp
theorem concE_loC (h : Nat → OneV) (bs : List Int) : concE h (loC bs) = loC bs := by
  unfold loC
  rw [concE_agg]
  congr 1
  rw [List.map_toArray]
  congr 1
  unfold u8s
  rw [List.map_map]
  exact List.map_congr_left fun _ _ => rfl
theorem sync_holds : sycC.holds Try.prog (conR sycR) := by
  refine turn_calls rfl ?_
  rintro w h F G f l e hinv H ⟨d, M, rfl, hd, he, hG⟩
  obtain ⟨bd, od, e0, p1, p2, p3⟩ := H.ob d _ hd.ob
  obtain ⟨r1, es1, cl1, e1, q1, q2, q3, q4⟩ := H.ob M.m1 _ hd.ma
  obtain ⟨r2, es2, cl2, e2, t1, t2, t3, t4⟩ := H.ob M.m2 _ hd.mo
  have hld := (List.getElem?_eq_some_iff.1 hd.ob).1
  have hl1 := (List.getElem?_eq_some_iff.1 hd.ma).1
  have hl2 := (List.getElem?_eq_some_iff.1 hd.mo).1
  have ha : ([tokAt d 0].map (concE h)).toArray = #[.pointer (some ⟨bd, od, none⟩)] := by
    show #[concE h (tokAt d 0)] = _
    rw [concE_at, e0]
    rfl
  rw [ha]
  have c2 : w.cell? ⟨bd, od + 2, none⟩ = some (.bool M.off) := (p2 2 _ rfl).1.cell
  have hres : (E.int .i64 (.var 0)).nam e lay0 = .int .i64 (sycE M) := by show Value.int .i64 (e.i 0) = _; rw [he]
  have hstep := str_step hd
  have hcall : Calls Try.prog 36 #[.pointer (some ⟨bd, od, none⟩)] w fun en w' => en = .returned (.bool (strB M)) ∧ ∃ h' F' f', Fr F w w' ∧ Objs w' h' F' (strG G d M) f' ∧ (∀ i x, F' i x → F i x ∨ w.heap.size ≤ i) ∧ ∀ n, n < G.length → h' n = h n := by
    have := calls_con str_holds (by decide) H (l := [tokAt d 0]) (e := (Env.ofL [.bool (strB M)]).ans (encG (strG G d M))) hinv ⟨d, M, rfl, hd, rfl, rfl⟩
    rw [ha] at this
    refine this.mono ?_
    rintro en w' ⟨h', F', f', G', z1, z2, z3, z4, z5, z6, z7⟩
    obtain rfl := encG_inj z2
    exact ⟨z1, h', F', f', z3, z4, z5, z7⟩
  cases ho : M.off with
  | true =>
    rw [ho] at c2
    refine (sync_off c2).mono ?_
    rintro en w' ⟨rfl, rfl⟩
    have e9 : sycE M = 9 := by unfold sycE; rw [if_pos ho]
    refine ⟨h, F, f, G, _, rfl, by rw [hres, e9], Inv.of_const fun _ => rfl, by rw [hG]; unfold sycG; rw [if_pos ho], Fr.refl _ _, H, fun _ _ => .inl, Nat.le_refl _, fun _ _ => rfl⟩
  | false =>
    rw [ho] at c2
    have ho' : ¬ M.off = true := by rw [ho]; simp
    cases hb : strB M with
    | true =>
      rw [hb] at hcall
      refine (sync_struck c2 hcall).mono ?_
      rintro en w' ⟨rfl, h', F', f', z1, z2, z3, z4⟩
      have e9 : sycE M = 9 := by unfold sycE; rw [if_neg ho', if_pos hb]
      exact ⟨h', F', f', strG G d M, _, rfl, by rw [hres, e9], Inv.of_const fun _ => rfl, by rw [hG]; unfold sycG; rw [if_neg ho', if_pos hb], z1, z2, z3, by rw [strG_len]; exact Nat.le_refl _, z4⟩
    | false =>
      rw [hb] at hcall
      obtain ⟨f1, f2, f3, f4, f5⟩ := strM_flds M
      have hb' : ¬ strB M = true := by rw [hb]; simp
      refine (sync_run (r1 := r1) (r2 := r2) (n := M.done) (l1 := (encA laC M.la).map fun p => (p.1, concE h p.2)) (lo := M.lo) c2 hcall ?_).mono ?_
      · rintro w' ⟨h', F', f', z1, z2, z3, z4⟩
        have hd' := hstep.is_
        obtain ⟨bd', od', e0', _, p2', _⟩ := z2.ob d _ hd'.ob
        have hma := hd'.ma
        rw [f1, f4] at hma
        have hmo := hd'.mo
        rw [f2, f5] at hmo
        obtain ⟨r1', es1', cl1', e1', q1', q2', _, _⟩ := z2.ob M.m1 _ hma
        obtain ⟨r2', es2', cl2', e2', t1', t2', _, _⟩ := z2.ob M.m2 _ hmo
        rw [z4 _ hld, e0] at e0'
        rw [z4 _ hl1, e1] at e1'
        rw [z4 _ hl2, e2] at e2'
        cases e0'
        cases e1'
        cases e2'
        have g0 := (p2' 0 _ rfl).1.cell
        have g1 := (p2' 1 _ rfl).1.cell
        have g4 := (p2' 4 _ rfl).1.cell
        rw [concE_name, f4, z4 _ hl1, e1] at g0
        rw [concE_name, f5, z4 _ hl2, e2] at g1
        rw [f3] at g4
        refine ⟨g0, g1, g4, (p2' 4 _ rfl).2, ⟨es1', cl1', q1', ?_, q2'.2⟩, fun p hp => ?_, ⟨es2', cl2', t1', ?_, t2'.2⟩, fun p hp => (hd.lo p hp).1, fun e => ?_⟩
        · rw [show (encA laC M.la).map (fun p => (p.1, concE h p.2)) = (encA laC M.la).map (fun p => (p.1, concE h' p.2)) from List.map_congr_left fun p hp => by rw [q3 p hp h' z4]]
          exact q2'.1
        · obtain ⟨q, hq, rfl⟩ := List.mem_map.1 hp
          exact encA_int _ _ q hq
        · have : (encA loC M.lo).map (fun p => (p.1, concE h' p.2)) = encA loC M.lo := by
            refine (List.map_congr_left fun p hp => ?_).trans (List.map_id _)
            obtain ⟨q, _, rfl⟩ := List.mem_map.1 hp
            show (_, concE h' (loC q.2)) = (_, loC q.2)
            rw [concE_loC]
          rw [← this]
          exact t2'.1
        · exact H.apart M.m1 M.m2 _ _ hd.ma hd.mo hd.ne rfl r1 0 ((q4 _ _).2 rfl) ((t4 _ _).2 e)
      · rintro en w2 ⟨rfl, w', bl, ⟨h', F', f', z1, z2, z3, z4⟩, hS⟩
        have hd' := hstep.is_
        have hS' : Synced w' w2 bd od r1 r2 (strM M).done ((encA laC (strM M).la).map fun p => (p.1, concE h' p.2)) (strM M).lo bl := by
          rw [f1, f2, f3, show (encA laC M.la).map (fun p => (p.1, concE h' p.2)) = (encA laC M.la).map (fun p => (p.1, concE h p.2)) from List.map_congr_left fun p hp => by rw [q3 p hp h' z4]]
          exact hS
        obtain ⟨h2, F2, f2', y1, y2, y3, y4⟩ := sync_objs z2 hd' (by rw [z4 _ hld]; exact e0) (by rw [f4, z4 _ hl1]; exact e1) (by rw [f5, z4 _ hl2]; exact e2) hS'
        have e9 : sycE M = 0 := by unfold sycE; rw [if_neg ho', if_neg hb']
        refine ⟨h2, F2, f2', syG (strG G d M) d (strM M), _, rfl, by rw [hres, e9], Inv.of_const fun _ => rfl, by rw [hG]; unfold sycG; rw [if_neg ho', if_neg hb'], z1.trans y1 (fun _ _ _ h => h) (fun i o hi hF => (z3 i o hF).resolve_right (by omega)), y2, fun i x hx => ?_, by rw [syG_len, strG_len]; omega, fun n hn => (y4 n (by rw [strG_len]; exact hn)).trans (z4 n hn)⟩
        rcases y3 i x hx with h | h
        · exact z3 i x h
        · exact .inr (Nat.le_trans z1.size h)
end Go.Proofs.Ytaigdbnfhehclaa
