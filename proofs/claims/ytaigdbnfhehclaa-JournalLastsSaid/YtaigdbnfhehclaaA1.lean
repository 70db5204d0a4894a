/- What is proved: a disk in the store; the contracts of its New, struck, Arm, Count, Down and settle. No condition but those each law names. -/
import Derived.Test.YtaigdbnfhehclaaA0
namespace Go.Proofs.Ytaigdbnfhehclaa
open Sx
set_option maxRecDepth 100000

abbrev u8s (bs : List Int) : List Value := bs.map (Value.int .u8)
section
variable {α : Type}
def getA (l : List (Int × α)) (k : Int) : Option α := match l with
  | [] => none
  | p :: r => if k = p.1 then some p.2 else getA r k
def putA (l : List (Int × α)) (k : Int) (v : α) : List (Int × α) := match l with
  | [] => [(k, v)]
  | p :: r => if k = p.1 then (k, v) :: r else p :: putA r k v
theorem getA_mem {l : List (Int × α)} {k : Int} {v : α} (h : getA l k = some v) : (k, v) ∈ l := by
  induction l with
  | nil => cases h
  | cons p r ih =>
    unfold getA at h
    split at h
    · rename_i e
      cases h
      rw [e]
      exact List.mem_cons_self ..
    · exact List.mem_cons_of_mem _ (ih h)
theorem putA_mem {l : List (Int × α)} {k : Int} {v : α} {p : Int × α} (h : p ∈ putA l k v) : p = (k, v) ∨ p ∈ l := by
  induction l with
  | nil => simp [putA] at h; exact .inl h
  | cons q r ih =>
    unfold putA at h
    split at h
    · rcases List.mem_cons.1 h with h | h
      · exact .inl h
      · exact .inr (List.mem_cons_of_mem _ h)
    · rcases List.mem_cons.1 h with h | h
      · subst h; exact .inr (List.mem_cons_self ..)
      · exact (ih h).imp id (List.mem_cons_of_mem _)
theorem getA_put (l : List (Int × α)) (k : Int) (v : α) (k' : Int) : getA (putA l k v) k' = if k' = k then some v else getA l k' := by
  induction l with
  | nil => unfold putA; simp only [getA]
  | cons p r ih =>
    unfold putA
    by_cases h : k = p.1
    · rw [if_pos h]
      by_cases h' : k' = k
      · subst h'; simp [getA]
      · have : ¬ k' = p.1 := fun e => h' (e.trans h.symm)
        simp [getA, h', this]
    · rw [if_neg h]
      by_cases h' : k' = k
      · subst h'
        rw [if_pos rfl] at ih ⊢
        simp [getA, h, ih]
      · rw [if_neg h'] at ih ⊢
        simp [getA, ih]
theorem getA_none {l : List (Int × α)} {k : Int} : getA l k = none ↔ k ∉ l.map (·.1) := by
  induction l with
  | nil => simp [getA]
  | cons p r ih =>
    unfold getA
    by_cases e : k = p.1
    · simp [e]
    · rw [if_neg e, ih]; simp [e]
theorem putA_nodup {l : List (Int × α)} {k : Int} {v : α} (h : (l.map (·.1)).Nodup) : ((putA l k v).map (·.1)).Nodup := by
  induction l with
  | nil => simp [putA]
  | cons q r ih =>
    rw [List.map_cons, List.nodup_cons] at h
    unfold putA
    by_cases e : k = q.1
    · rw [if_pos e, List.map_cons, List.nodup_cons]
      exact ⟨by show k ∉ _; rw [e]; exact h.1, h.2⟩
    · rw [if_neg e, List.map_cons, List.nodup_cons]
      refine ⟨getA_none.1 ?_, ih h.2⟩
      rw [getA_put, if_neg (Ne.symm e)]
      exact getA_none.2 h.1
theorem getA_at {l : List (Int × α)} (hn : (l.map (·.1)).Nodup) {p : Int × α} (h : p ∈ l) : getA l p.1 = some p.2 := by
  induction l with
  | nil => cases h
  | cons q r ih =>
    rw [List.map_cons, List.nodup_cons] at hn
    unfold getA
    rcases List.mem_cons.1 h with rfl | h
    · rw [if_pos rfl]
    · rw [if_neg fun e => hn.1 (by rw [← e]; exact List.mem_map.2 ⟨p, h, rfl⟩)]
      exact ih hn.2 h
def encA (c : α → Value) (l : List (Int × α)) : List (Value × Value) := l.map fun p => (.int .i64 p.1, c p.2)
theorem getL_enc (c : α → Value) (l : List (Int × α)) (k : Int) : getL (encA c l) (.int .i64 k) = (getA l k).map c := by
  induction l with
  | nil => rfl
  | cons p r ih =>
    unfold encA
    rw [List.map_cons]
    unfold getL getA
    by_cases h : k = p.1
    · rw [if_pos h, if_pos (by rw [h])]; rfl
    · rw [if_neg h, if_neg (by simpa using h)]; exact ih
theorem putL_enc (c : α → Value) (l : List (Int × α)) (k : Int) (v : α) : putL (encA c l) (.int .i64 k) (c v) = encA c (putA l k v) := by
  induction l with
  | nil => rfl
  | cons p r ih =>
    unfold encA at ih ⊢
    rw [List.map_cons]
    unfold putL putA
    by_cases h : k = p.1
    · rw [if_pos h, if_pos (by rw [h])]; rfl
    · rw [if_neg h, if_neg (by simpa using h), ih]; rfl
theorem encA_int (c : α → Value) (l : List (Int × α)) : ∀ p ∈ encA c l, IntK p.1 := fun p hp => by
  obtain ⟨q, _, rfl⟩ := List.mem_map.1 hp
  exact ⟨_, rfl⟩
end
/-- What lasts of a sector: torn, or an object and its bytes. -/
def laC : Option (Nat × List Int) → Value
  | none => .pointer none
  | some q => tokAt q.1 0
def loC (bs : List Int) : Value := .agg (u8s bs).toArray
structure DiskM where
  la : List (Int × Option (Nat × List Int))
  lo : List (Int × List Int)
  off : Bool
  left : Int
  done : Int
  m1 : Nat
  m2 : Nat
def DiskM.cells (M : DiskM) : List Value := [tok M.m1, tok M.m2, .bool M.off, .int .i64 M.left, .int .i64 M.done]
/-- A disk in the store. -/
structure IsDisk (G : List Ob) (d : Nat) (M : DiskM) : Prop where
  ob : G[d]? = some (.ptr M.cells)
  ma : G[M.m1]? = some (.map (encA laC M.la))
  mo : G[M.m2]? = some (.map (encA loC M.lo))
  la : ∀ k q, (k, some q) ∈ M.la → G[q.1]? = some (.ptr (u8s q.2)) ∧ q.2.length = 128
  lo : ∀ p ∈ M.lo, p.2.length = 128 ∧ 0 ≤ p.1 ∧ p.1 < 512
  ne : M.m1 ≠ M.m2
  rng : -1 ≤ M.left ∧ M.left < 9223372036854775808
  nd : (M.lo.map (·.1)).Nodup
def FrD (d : Nat) (M : DiskM) (G G' : List Ob) : Prop := G.length ≤ G'.length ∧ ∀ (n : Nat) o, G[n]? = some o → n ≠ d → n ≠ M.m1 → n ≠ M.m2 → G'[n]? = some o
theorem FrD.refl {d : Nat} {M : DiskM} {G : List Ob} : FrD d M G G := ⟨Nat.le_refl _, fun _ _ h _ _ _ => h⟩
theorem FrD.trans {d : Nat} {M M' : DiskM} {A B C : List Ob} (h : FrD d M A B) (h' : FrD d M' B C) (e1 : M'.m1 = M.m1) (e2 : M'.m2 = M.m2) : FrD d M A C :=
  ⟨Nat.le_trans h.1 h'.1, fun n o ho h1 h2 h3 => h'.2 n o (h.2 n o ho h1 h2 h3) h1 (by rw [e1]; exact h2) (by rw [e2]; exact h3)⟩
/-- A step of a disk. -/
structure DStep (d : Nat) (M : DiskM) (G : List Ob) (M' : DiskM) (G' : List Ob) : Prop where
  is_ : IsDisk G' d M'
  fr : FrD d M G G'
  m1 : M'.m1 = M.m1
  m2 : M'.m2 = M.m2
theorem DStep.refl {d : Nat} {M : DiskM} {G : List Ob} (h : IsDisk G d M) : DStep d M G M G := ⟨h, FrD.refl, rfl, rfl⟩
theorem DStep.trans {d : Nat} {M M' M'' : DiskM} {G G' G'' : List Ob} (h : DStep d M G M' G') (h' : DStep d M' G' M'' G'') : DStep d M G M'' G'' :=
  ⟨h'.is_, h.fr.trans h'.fr h.m1 h.m2, h'.m1.trans h.m1, h'.m2.trans h.m2⟩
def Keeps (G G' : List Ob) : Prop := ∀ (n : Nat) o, G[n]? = some o → G'[n]? = some o
theorem Keeps.append (G X : List Ob) : Keeps G (G ++ X) := fun n o h => by rw [List.getElem?_append_left (List.getElem?_eq_some_iff.1 h).1]; exact h
theorem IsDisk.keeps {G G' : List Ob} {d : Nat} {M : DiskM} (h : IsDisk G d M) (hk : Keeps G G') : IsDisk G' d M :=
  ⟨hk _ _ h.ob, hk _ _ h.ma, hk _ _ h.mo, fun k q hq => ⟨hk _ _ (h.la k q hq).1, (h.la k q hq).2⟩, h.lo, h.ne, h.rng, h.nd⟩
theorem DStep.of_keeps {G G' : List Ob} {d : Nat} {M : DiskM} (h : IsDisk G d M) (hk : Keeps G G') (hl : G.length ≤ G'.length) : DStep d M G M G' := ⟨h.keeps hk, ⟨hl, fun n o ho _ _ _ => hk n o ho⟩, rfl, rfl⟩
theorem IsDisk.ned {G : List Ob} {d n : Nat} {M : DiskM} (h : IsDisk G d M) {o : Ob} (ho : G[n]? = some o) (hno : o ≠ .ptr M.cells) : n ≠ d := fun e => by
  subst e
  rw [h.ob] at ho
  cases ho
  exact hno rfl
theorem sec_ne {M : DiskM} {bs : List Int} (hl : bs.length = 128) : Ob.ptr (u8s bs) ≠ .ptr M.cells := fun e => by
  injection e with e
  have := congrArg List.length e
  rw [List.length_map, hl] at this
  cases this
/-- The struct's cells turn. -/
theorem IsDisk.put {G : List Ob} {d : Nat} {M M' : DiskM} (h : IsDisk G d M) (e1 : M'.la = M.la) (e2 : M'.lo = M.lo) (e3 : M'.m1 = M.m1) (e4 : M'.m2 = M.m2) (hr : -1 ≤ M'.left ∧ M'.left < 9223372036854775808) : DStep d M G M' (G.set d (.ptr M'.cells)) := by
  have hl := (List.getElem?_eq_some_iff.1 h.ob).1
  have nx : ∀ (n : Nat) o, G[n]? = some o → o ≠ .ptr M.cells → (G.set d (.ptr M'.cells))[n]? = some o := fun n o ho hno => by
    rw [List.getElem?_set_ne (Ne.symm (h.ned ho hno))]
    exact ho
  refine ⟨⟨List.getElem?_set_self hl, by rw [e1, e3]; exact nx _ _ h.ma (fun e => by cases e), by rw [e2, e4]; exact nx _ _ h.mo (fun e => by cases e), fun k q hq => ?_, by rw [e2]; exact h.lo, by rw [e3, e4]; exact h.ne, hr, by rw [e2]; exact h.nd⟩, ⟨by simp, fun n o ho h1 _ _ => by rw [List.getElem?_set_ne (Ne.symm h1)]; exact ho⟩, e3, e4⟩
  rw [e1] at hq
  have := h.la k q hq
  exact ⟨nx _ _ this.1 (sec_ne this.2), this.2⟩
/-- What is loose turns. -/
theorem IsDisk.putLo {G : List Ob} {d : Nat} {M : DiskM} (h : IsDisk G d M) (l : List (Int × List Int)) (hl : ∀ p ∈ l, p.2.length = 128 ∧ 0 ≤ p.1 ∧ p.1 < 512) (hn : (l.map (·.1)).Nodup) : DStep d M G { M with lo := l } (G.set M.m2 (.map (encA loC l))) := by
  have hlt := (List.getElem?_eq_some_iff.1 h.mo).1
  have nx : ∀ (n : Nat) o, G[n]? = some o → n ≠ M.m2 → (G.set M.m2 (.map (encA loC l)))[n]? = some o := fun n o ho hne => by
    rw [List.getElem?_set_ne (Ne.symm hne)]
    exact ho
  have np : ∀ (n : Nat) c, G[n]? = some (.ptr c) → n ≠ M.m2 := fun n c ho e => by
    subst e
    rw [h.mo] at ho
    cases ho
  exact ⟨⟨nx _ _ h.ob (np _ _ h.ob), nx _ _ h.ma h.ne, List.getElem?_set_self hlt, fun k q hq => ⟨nx _ _ (h.la k q hq).1 (np _ _ (h.la k q hq).1), (h.la k q hq).2⟩, hl, h.ne, h.rng, hn⟩, ⟨by simp, fun n o ho _ _ h3 => nx n o ho h3⟩, rfl, rfl⟩
/-- What lasts turns. -/
theorem IsDisk.putLa {G : List Ob} {d : Nat} {M : DiskM} (h : IsDisk G d M) (l : List (Int × Option (Nat × List Int))) (hl : ∀ k q, (k, some q) ∈ l → G[q.1]? = some (.ptr (u8s q.2)) ∧ q.2.length = 128) : DStep d M G { M with la := l } (G.set M.m1 (.map (encA laC l))) := by
  have hlt := (List.getElem?_eq_some_iff.1 h.ma).1
  have nx : ∀ (n : Nat) o, G[n]? = some o → n ≠ M.m1 → (G.set M.m1 (.map (encA laC l)))[n]? = some o := fun n o ho hne => by
    rw [List.getElem?_set_ne (Ne.symm hne)]
    exact ho
  have np : ∀ (n : Nat) c, G[n]? = some (.ptr c) → n ≠ M.m1 := fun n c ho e => by
    subst e
    rw [h.ma] at ho
    cases ho
  exact ⟨⟨nx _ _ h.ob (np _ _ h.ob), List.getElem?_set_self hlt, nx _ _ h.mo h.ne.symm, fun k q hq => ⟨nx _ _ (hl k q hq).1 (np _ _ (hl k q hq).1), (hl k q hq).2⟩, h.lo, h.ne, h.rng, h.nd⟩, ⟨by simp, fun n o ho _ h2 _ => nx n o ho h2⟩, rfl, rfl⟩
def dk : E := .pla (.var 0) (.lit 0) 0
/-- The steps that read the disk's cells. -/
theorem IsDisk.map1 {S : List ConS} {LQ : LoopS} {K : Env → Ex → St → Prop} {ρ : Env} {ci base : Nat} {vs : List E} {t : Tree} {G : List Ob} {d : Nat} {M : DiskM} (h : IsDisk G d M) (h1 : S[ci]? = some (conR (loadR (.hnd 0)))) (h2 : E.nams ρ lay0 vs = [tokAt d 0, encG G])
    (h4 : treeSem S LQ K (ρ.from_ base (Env.ofL [tok M.m1])) t) : treeSem S LQ K ρ (.call ci base vs t) :=
  sem_step G [tokAt d 0] (Env.ofL [tok M.m1]) h1 h2 ⟨d, 0, _, tok M.m1, rfl, cells_ptr h.ob, rfl, rfl⟩ h4
theorem IsDisk.map2 {S : List ConS} {LQ : LoopS} {K : Env → Ex → St → Prop} {ρ : Env} {ci base : Nat} {vs : List E} {t : Tree} {G : List Ob} {d : Nat} {M : DiskM} (h : IsDisk G d M) (h1 : S[ci]? = some (conR (loadR (.hnd 0)))) (h2 : E.nams ρ lay0 vs = [tokAt d 1, encG G])
    (h4 : treeSem S LQ K (ρ.from_ base (Env.ofL [tok M.m2])) t) : treeSem S LQ K ρ (.call ci base vs t) :=
  sem_step G [tokAt d 1] (Env.ofL [tok M.m2]) h1 h2 ⟨d, 1, _, tok M.m2, rfl, cells_ptr h.ob, rfl, rfl⟩ h4
theorem sem_set1 {S : List ConS} {LQ : LoopS} {K : Env → Ex → St → Prop} {ρ : Env} {ci base d k : Nat} {vs : List E} {t : Tree} {G : List Ob} {cells : List Value} {v : Value} (hd : G[d]? = some (.ptr cells)) (hk : k < cells.length) (h1 : S[ci]? = some (conR (storeR 1)))
    (hv : v.cells.toList = [v]) (hv1 : v.oneCell' = true) (hvt : ∀ cs, v ≠ .tuple cs) (h2 : E.nams ρ lay0 vs = [tokAt d k, v, encG G])
    (h4 : treeSem S LQ K (ρ.from_ base ((Env.ofL []).ans (encG (G.set d (.ptr (cells.set k v)))))) t) : treeSem S LQ K ρ (.call ci base vs t) := by
  refine sem_step G [tokAt d k, v] ((Env.ofL []).ans (encG (G.set d (.ptr (cells.set k v))))) h1 h2 ⟨d, k, v, .ptr cells, cells, rfl, hd, rfl, rfl, ?_, fun u hu => ?_, hvt, by omega, ?_⟩ h4
  · have : v.cells.toList.length = 1 := by rw [hv]; rfl
    simpa using this
  · rw [hv, List.mem_singleton] at hu
    subst hu
    exact hv1
  · rw [hv, overV_set _ _ _ hk]
    rfl
/-- New. -/
def newM (n : Nat) : DiskM := ⟨[], [], false, -1, 0, n, n + 1⟩
def newG (G : List Ob) : List Ob := G ++ [.map []] ++ [.map []] ++ [.ptr (newM G.length).cells]
def newR (G : List Ob) (l : List Value) (e : Env) : Prop := l = [] ∧ e.i 0 = (G.length + 2 : Nat) ∧ e.g gv = encG (newG G)
def newC : Con := mkCon 7 [] (.pla (.var 0) (.lit 0) 0) 2
def treeNew : Tree :=
 (.call 8 1200 [(.var 199)]
 (.call 9 2200 [(.var 2199)]
 (.call 10 4200 [(.agg ([(.hnd 1200), (.hnd 2200), (.bool (.lit false)), (.int .i64 (.lit (-1))), (.int .i64 (.lit 0))])), (.var 3199)]
 (leafG (.pla (.var 4200) (.lit 0) 0) .nil 5199))))
theorem new_holds : newC.holds Try.prog (conR newR) := by
  refine con_of_runG (cs := dp) (S := dpS) (LT := []) (depth := 1) (fuel := 10) (nv := 200) (av := []) (T := treeNew) dp_holds (by kernel_rfl) (by kernel_rfl) (by kernel_rfl) ?_
  rintro G l e0 ⟨rfl, he, hG⟩
  refine ⟨noLoops, (Env.ofL []).st (encG G), rfl, rfl, ?_⟩
  refine sem_step G [] ((Env.ofL [tok G.length]).ans (encG (G ++ [.map []]))) rfl rfl ⟨rfl, rfl, rfl⟩ ?_
  refine sem_step (G ++ [.map []]) [] ((Env.ofL [tok (G.length + 1)]).ans (encG (G ++ [.map []] ++ [.map []]))) rfl rfl ⟨rfl, by show tok (G.length + 1) = tok (G ++ [Ob.map []]).length; rw [show (G ++ [Ob.map []]).length = G.length + 1 by simp], rfl⟩ ?_
  refine sem_step (G ++ [.map []] ++ [.map []]) [.agg (newM G.length).cells.toArray] ((Env.ofL [.int .i64 (G.length + 2 : Nat)]).ans (encG (newG G))) rfl rfl ⟨_, rfl, ?_, fun cs e => (by cases e), Nat.succ_pos 4, by simp [Env.ofL, Env.ans], rfl⟩ ?_
  · intro c hc
    simp [Value.cells, DiskM.cells, newM] at hc
    rcases hc with rfl | rfl | rfl | rfl | rfl <;> rfl
  · exact sem_retG rfl (by show tokAt _ _ = tokAt (e0.i 0).toNat _; rw [he]; rfl) trivial (by rw [hG]; rfl)
theorem new_is (G : List Ob) : IsDisk (newG G) (G.length + 2) (newM G.length) := by
  have l1 : (G ++ [Ob.map []]).length = G.length + 1 := by simp
  have l2 : (G ++ [Ob.map []] ++ [Ob.map []]).length = G.length + 2 := by simp
  refine ⟨?_, ?_, ?_, fun k q hq => (by cases hq), fun p hp => (by cases hp), by show G.length ≠ G.length + 1; omega, by show -1 ≤ (-1 : Int) ∧ (-1 : Int) < _; omega, List.nodup_nil⟩
  · unfold newG
    rw [List.getElem?_append_right (by omega), l2, Nat.sub_self]
    rfl
  · show (newG G)[G.length]? = _
    unfold newG
    rw [List.append_assoc, List.append_assoc, List.getElem?_append_right (Nat.le_refl _), Nat.sub_self]
    rfl
  · show (newG G)[G.length + 1]? = _
    unfold newG
    rw [List.append_assoc, List.getElem?_append_right (by omega), l1, Nat.sub_self]
    rfl
theorem new_keeps (G : List Ob) : Keeps G (newG G) := by
  unfold newG
  rw [List.append_assoc, List.append_assoc]
  exact Keeps.append _ _
/-- Is an operation struck? -/
def strB (M : DiskM) : Bool := !decide (M.left < 0) && decide (M.left - 1 < 0)
def strM (M : DiskM) : DiskM := if M.left < 0 then M else { M with left := M.left - 1, off := decide (M.left - 1 < 0) }
def strG (G : List Ob) (d : Nat) (M : DiskM) : List Ob := if M.left < 0 then G else G.set d (.ptr (strM M).cells)
def strR (G : List Ob) (l : List Value) (e : Env) : Prop := ∃ d M, l = [tokAt d 0] ∧ IsDisk G d M ∧ e.b 0 = strB M ∧ e.g gv = encG (strG G d M)
def strC : Con := mkCon 36 [] (.bool (.var 0)) 2
theorem str_step {G : List Ob} {d : Nat} {M : DiskM} (h : IsDisk G d M) : DStep d M G (strM M) (strG G d M) := by
  have hr := h.rng
  unfold strG
  split
  · rename_i hl
    have : strM M = M := by unfold strM; rw [if_pos hl]
    rw [this]
    exact DStep.refl h
  · rename_i hl
    have e : strM M = { M with left := M.left - 1, off := decide (M.left - 1 < 0) } := by unfold strM; rw [if_neg hl]
    rw [e]
    exact h.put rfl rfl rfl rfl (by show -1 ≤ M.left - 1 ∧ M.left - 1 < _; omega)
theorem wrap_in {k : Int} (h0 : -9223372036854775808 ≤ k) (h1 : k < 9223372036854775808) : IntKind.i64.wrap k = k := by rw [IntWalk.i64_left, IntWalk.wrap64_in _ (by omega)]
def treeStruck : Tree :=
 (.call 0 4200 [(.pla (.var 0) (.lit 0) 3), (.var 199)]
 (.split (.cmp .lss (.var 4200) (.lit 0))
 (leafG (.bool (.lit false)) .nil 199)
 (.call 0 9200 [(.pla (.var 0) (.lit 0) 3), (.var 199)]
 (.call 5 13200 [(.pla (.var 0) (.lit 0) 3), (.int .i64 (.bin .sub .i64 (.var 9200) (.lit 1))), (.var 199)]
 (.call 0 18200 [(.pla (.var 0) (.lit 0) 3), (.var 14199)]
 (.call 6 22200 [(.pla (.var 0) (.lit 0) 2), (.bool (.cmp .lss (.var 18200) (.lit 0))), (.var 14199)]
 (.call 1 26200 [(.pla (.var 0) (.lit 0) 2), (.var 23199)]
 (leafG (.bool (.var 26200)) .nil 23199))))))))
theorem str_holds : strC.holds Try.prog (conR strR) := by
  refine con_of_runG (cs := dp) (S := dpS) (LT := []) (depth := 1) (fuel := 10) (nv := 200) (av := [dk]) (T := treeStruck) dp_holds (by kernel_rfl) (by kernel_rfl) (by kernel_rfl) ?_
  rintro G l e0 ⟨d, M, rfl, h, he, hG⟩
  have hr := h.rng
  refine ⟨noLoops, (Env.ofL [.int .i64 d]).st (encG G), rfl, rfl, ?_⟩
  unfold strB at he
  unfold strG at hG
  refine sem_step G [tokAt d 3] (Env.ofL [.int .i64 M.left]) rfl rfl ⟨d, 3, _, _, rfl, cells_ptr h.ob, rfl, rfl⟩ ?_
  refine sem_split (fun hl => ?_) (fun hl => ?_)
  · have hl : M.left < 0 := of_decide_eq_true hl
    rw [decide_eq_true hl] at he
    rw [if_pos hl] at hG
    exact sem_retG rfl (by show Value.bool false = Value.bool (e0.b 0); rw [he]; rfl) trivial (by rw [hG]; rfl)
  · have hl : ¬ M.left < 0 := of_decide_eq_false hl
    have e : strM M = { M with left := M.left - 1, off := decide (M.left - 1 < 0) } := by unfold strM; rw [if_neg hl]
    have hw : IntKind.i64.wrap (M.left - 1) = M.left - 1 := wrap_in (by omega) (by omega)
    rw [decide_eq_false hl] at he
    rw [if_neg hl, e] at hG
    refine sem_step G [tokAt d 3] (Env.ofL [.int .i64 M.left]) rfl rfl ⟨d, 3, _, _, rfl, cells_ptr h.ob, rfl, rfl⟩ ?_
    refine sem_set1 (v := .int .i64 (M.left - 1)) h.ob (by show 3 < 5; omega) rfl rfl rfl (fun cs e => by cases e) (by show [_, Value.int .i64 (IntKind.i64.wrap (M.left - 1)), _] = _; rw [hw]; rfl) ?_
    have h1 := (h.put (M' := { M with left := M.left - 1 }) rfl rfl rfl rfl (by show -1 ≤ M.left - 1 ∧ M.left - 1 < _; omega)).is_
    refine sem_step _ [tokAt d 3] (Env.ofL [.int .i64 (M.left - 1)]) rfl rfl ⟨d, 3, _, _, rfl, cells_ptr h1.ob, rfl, rfl⟩ ?_
    refine sem_set1 (v := .bool (decide (M.left - 1 < 0))) h1.ob (by show 2 < 5; omega) rfl rfl rfl (fun cs e => by cases e) rfl ?_
    rw [List.set_set]
    have h2 := (h.put (M' := { M with left := M.left - 1, off := decide (M.left - 1 < 0) }) rfl rfl rfl rfl (by show -1 ≤ M.left - 1 ∧ M.left - 1 < _; omega)).is_
    refine sem_step _ [tokAt d 2] (Env.ofL [.bool (decide (M.left - 1 < 0))]) rfl rfl ⟨d, 2, _, _, rfl, cells_ptr h2.ob, rfl, rfl⟩ ?_
    exact sem_retG rfl (by show Value.bool _ = Value.bool (e0.b 0); rw [he]; rfl) trivial (by rw [hG]; rfl)
/-- Arm. -/
def armM (M : DiskM) (n : Int) : DiskM := { M with left := intMax n (-1) }
def armG (G : List Ob) (d : Nat) (M : DiskM) (n : Int) : List Ob := G.set d (.ptr (armM M n).cells)
def armR (G : List Ob) (l : List Value) (e : Env) : Prop := ∃ d M n, l = [tokAt d 0, .int .i64 n] ∧ IsDisk G d M ∧ e.g gv = encG (armG G d M n)
def armC : Con := mkCon 15 [] (.tup []) 2
theorem arm_step {G : List Ob} {d : Nat} {M : DiskM} (h : IsDisk G d M) {n : Int} (hn : n < 9223372036854775808) : DStep d M G (armM M n) (armG G d M n) := by
  refine h.put rfl rfl rfl rfl ?_
  show -1 ≤ intMax n (-1) ∧ intMax n (-1) < _
  unfold intMax
  split <;> omega
def treeArm : Tree :=
 (.call 5 5200 [(.pla (.var 0) (.lit 0) 3), (.int .i64 (.mx (.var 1) (.lit (-1)))), (.var 199)]
 (leafG (.tup ([])) .nil 6199))
theorem arm_holds : armC.holds Try.prog (conR armR) := by
  refine con_of_runG (cs := dp) (S := dpS) (LT := []) (depth := 1) (fuel := 10) (nv := 200) (av := [dk, .int .i64 (.var 1)]) (T := treeArm) dp_holds (by kernel_rfl) (by kernel_rfl) (by kernel_rfl) ?_
  rintro G l e0 ⟨d, M, n, rfl, h, hG⟩
  refine ⟨noLoops, (Env.ofL [.int .i64 d, .int .i64 n]).st (encG G), rfl, rfl, ?_⟩
  refine sem_set1 (v := .int .i64 (intMax n (-1))) h.ob (by show 3 < 5; omega) rfl rfl rfl (fun cs e => by cases e) rfl ?_
  exact sem_retG rfl rfl trivial (by rw [hG]; rfl)
/-- Count, Down. -/
def countR (G : List Ob) (l : List Value) (e : Env) : Prop := ∃ d M, l = [tokAt d 0] ∧ IsDisk G d M ∧ e.i 0 = M.done ∧ e.g gv = encG G
def countC : Con := mkCon 20 [] (.int .i64 (.var 0)) 2
def treeCount : Tree :=
 (.call 0 4200 [(.pla (.var 0) (.lit 0) 4), (.var 199)]
 (leafG (.int .i64 (.var 4200)) .nil 199))
theorem count_holds : countC.holds Try.prog (conR countR) := by
  refine con_of_runG (cs := dp) (S := dpS) (LT := []) (depth := 1) (fuel := 10) (nv := 200) (av := [dk]) (T := treeCount) dp_holds (by kernel_rfl) (by kernel_rfl) (by kernel_rfl) ?_
  rintro G l e0 ⟨d, M, rfl, h, he, hG⟩
  refine ⟨noLoops, (Env.ofL [.int .i64 d]).st (encG G), rfl, rfl, ?_⟩
  refine sem_step G [tokAt d 4] (Env.ofL [.int .i64 M.done]) rfl rfl ⟨d, 4, _, _, rfl, cells_ptr h.ob, rfl, rfl⟩ ?_
  exact sem_retG rfl (by show _ = Value.int .i64 (e0.i 0); rw [he]; rfl) trivial (by rw [hG]; rfl)
def downR (G : List Ob) (l : List Value) (e : Env) : Prop := ∃ d M, l = [tokAt d 0] ∧ IsDisk G d M ∧ e.b 0 = M.off ∧ e.g gv = encG G
def downC : Con := mkCon 24 [] (.bool (.var 0)) 2
def treeDown : Tree :=
 (.call 1 4200 [(.pla (.var 0) (.lit 0) 2), (.var 199)]
 (leafG (.bool (.var 4200)) .nil 199))
theorem down_holds : downC.holds Try.prog (conR downR) := by
  refine con_of_runG (cs := dp) (S := dpS) (LT := []) (depth := 1) (fuel := 10) (nv := 200) (av := [dk]) (T := treeDown) dp_holds (by kernel_rfl) (by kernel_rfl) (by kernel_rfl) ?_
  rintro G l e0 ⟨d, M, rfl, h, he, hG⟩
  refine ⟨noLoops, (Env.ofL [.int .i64 d]).st (encG G), rfl, rfl, ?_⟩
  refine sem_step G [tokAt d 2] (Env.ofL [.bool M.off]) rfl rfl ⟨d, 2, _, _, rfl, cells_ptr h.ob, rfl, rfl⟩ ?_
  exact sem_retG rfl (by show _ = Value.bool (e0.b 0); rw [he]; rfl) trivial (by rw [hG]; rfl)
/-- Bytes, filled up. -/
def pad (bs : List Int) : List Int := bs ++ List.replicate (128 - bs.length) 0
theorem pad_length {bs : List Int} (h : bs.length ≤ 128) : (pad bs).length = 128 := by unfold pad; rw [List.length_append, List.length_replicate]; omega
theorem over_pad {bs : List Int} (h : bs.length ≤ 128) : overV (List.replicate 128 (Value.int .u8 0)) 0 ((u8s bs).take (min bs.length 128)) = u8s (pad bs) := by
  have h1 : (u8s bs).take (min bs.length 128) = u8s bs := List.take_of_length_le (by rw [List.length_map]; omega)
  rw [h1]
  unfold overV pad
  rw [List.take_zero, List.nil_append, Nat.zero_add, List.length_map, List.drop_replicate]
  show _ = List.map _ _
  rw [List.map_append, List.map_replicate]
/-- The value of a sector in a map. -/
def bytesOf (M : DiskM) (k : Int) : List Int := (getA M.lo k).getD (List.replicate 128 0)
theorem bytesOf_length {G : List Ob} {d : Nat} {M : DiskM} (h : IsDisk G d M) (k : Int) : (bytesOf M k).length = 128 := by
  unfold bytesOf
  cases hg : getA M.lo k with
  | none => simp
  | some bs => exact (h.lo _ (getA_mem hg)).1
theorem zeros_loC : loC (List.replicate 128 0) = zerosV := by unfold loC zerosV u8s; rw [List.map_replicate]
theorem getLo (M : DiskM) (k : Int) : (getL (encA loC M.lo) (.int .i64 k)).getD zerosV = loC (bytesOf M k) := by
  rw [getL_enc]
  unfold bytesOf
  cases getA M.lo k with
  | none => rw [Option.map_none, Option.getD_none, Option.getD_none, zeros_loC]
  | some bs => rfl
theorem loC_cells (bs : List Int) : (loC bs).cells.toList = u8s bs := by simp [loC, Value.cells]
theorem u8s_one {bs : List Int} {c : Value} (h : c ∈ u8s bs) : c.oneCell' = true := by
  obtain ⟨n, _, rfl⟩ := List.mem_map.1 h
  rfl
/-- A box gets a sector's bytes. -/
theorem sem_fill {LQ : LoopS} {K : Env → Ex → St → Prop} {ρ : Env} {S : List ConS} {c1 c2 b1 b2 : Nat} {vs1 vs2 : List E} {t : Tree} {G : List Ob} {bs : List Int} (hl : bs.length = 128) (s1 : S[c1]? = some (conR (allocR (List.replicate 128 (Value.int .u8 0))))) (s2 : S[c2]? = some (conR (storeR 128)))
    (h1 : E.nams ρ lay0 vs1 = [encG G]) (h2 : E.nams (ρ.from_ b1 ((Env.ofL [.int .i64 G.length]).ans (encG (G ++ [Ob.ptr (List.replicate 128 (Value.int .u8 0))])))) lay0 vs2 = [tokAt G.length 0, loC bs, encG (G ++ [Ob.ptr (List.replicate 128 (Value.int .u8 0))])])
    (h4 : treeSem S LQ K ((ρ.from_ b1 ((Env.ofL [.int .i64 G.length]).ans (encG (G ++ [Ob.ptr (List.replicate 128 (Value.int .u8 0))])))).from_ b2 ((Env.ofL []).ans (encG (G ++ [Ob.ptr (u8s bs)])))) t) : treeSem S LQ K ρ (.call c1 b1 vs1 (.call c2 b2 vs2 t)) := by
  refine sem_step G [] ((Env.ofL [.int .i64 G.length]).ans (encG (G ++ [Ob.ptr (List.replicate 128 (Value.int .u8 0))]))) s1 h1 ⟨rfl, rfl, rfl⟩ ?_
  refine sem_step (G ++ [Ob.ptr (List.replicate 128 (Value.int .u8 0))]) [tokAt G.length 0, loC bs] ((Env.ofL []).ans (encG (G ++ [Ob.ptr (u8s bs)]))) s2 h2 ⟨G.length, 0, loC bs, .ptr (List.replicate 128 (Value.int .u8 0)), _, rfl, ?_, rfl, rfl, ?_, fun c hc => ?_, fun cs e => (by cases e), ?_, ?_⟩ h4
  · rw [List.getElem?_append_right (Nat.le_refl _), Nat.sub_self]; rfl
  · show (u8s bs).toArray.size = 128
    rw [List.size_toArray, List.length_map, hl]
  · rw [loC_cells] at hc
    exact u8s_one hc
  · rw [List.length_replicate]
    exact Nat.le_refl _
  · rw [loC_cells]
    have : overV (List.replicate 128 (Value.int .u8 0)) 0 (u8s bs) = u8s bs := by
      unfold overV
      rw [List.take_zero, List.nil_append, List.drop_of_length_le (by rw [List.length_replicate, List.length_map, hl]; exact Nat.le_refl _), List.append_nil]
    rw [this, List.set_append_right _ _ (Nat.le_refl _), Nat.sub_self]
    rfl
/-- settle. -/
def setM (G : List Ob) (M : DiskM) (k : Int) : DiskM := { M with la := putA M.la k (some (G.length, bytesOf M k)) }
def setG (G : List Ob) (M : DiskM) (k : Int) : List Ob := (G ++ [Ob.ptr (u8s (bytesOf M k))]).set M.m1 (.map (encA laC (setM G M k).la))
def setR (G : List Ob) (l : List Value) (e : Env) : Prop := ∃ d M k, l = [tokAt d 0, .int .i64 k] ∧ IsDisk G d M ∧ e.g gv = encG (setG G M k)
def setC : Con := mkCon 37 [] (.tup []) 2
theorem set_step {G : List Ob} {d : Nat} {M : DiskM} (h : IsDisk G d M) (k : Int) : DStep d M G (setM G M k) (setG G M k) := by
  have h1 := DStep.of_keeps h (Keeps.append G [Ob.ptr (u8s (bytesOf M k))]) (by simp)
  refine h1.trans (h1.is_.putLa (setM G M k).la fun k' q hq => ?_)
  rcases putA_mem hq with e | hq
  · injection e with e1 e2
    injection e2 with e2
    subst e2
    exact ⟨by show (G ++ [_])[G.length]? = _; rw [List.getElem?_append_right (Nat.le_refl _), Nat.sub_self]; rfl, bytesOf_length h k⟩
  · exact h1.is_.la k' q hq
def treeSettle : Tree :=
 (.call 3 3200 [(.pla (.var 0) (.lit 0) 1), (.var 199)]
 (.call 18 5200 [(.hnd 3200), (.int .i64 (.var 1)), (.var 199)]
 (.call 11 6200 [(.var 199)]
 (.call 7 7200 [(.pla (.var 6200) (.lit 0) 0), (.var 5200), (.var 7199)]
 (.call 2 11200 [(.pla (.var 0) (.lit 0) 0), (.var 8199)]
 (.call 15 13200 [(.hnd 11200), (.int .i64 (.var 1)), (.pla (.var 6200) (.lit 0) 0), (.var 8199)]
 (leafG (.tup ([])) .nil 14199)))))))
theorem set_holds : setC.holds Try.prog (conR setR) := by
  refine con_of_runG (cs := dp) (S := dpS) (LT := []) (depth := 1) (fuel := 10) (nv := 200) (av := [dk, .int .i64 (.var 1)]) (T := treeSettle) dp_holds (by kernel_rfl) (by kernel_rfl) (by kernel_rfl) ?_
  rintro G l e0 ⟨d, M, k, rfl, h, hG⟩
  refine ⟨noLoops, (Env.ofL [.int .i64 d, .int .i64 k]).st (encG G), rfl, rfl, ?_⟩
  have h1 := DStep.of_keeps h (Keeps.append G [Ob.ptr (u8s (bytesOf M k))]) (by simp)
  refine h.map2 rfl rfl ?_
  refine sem_step G [tok M.m2, .int .i64 k] (Env.ofL [loC (bytesOf M k)]) rfl rfl ⟨M.m2, _, _, rfl, h.mo, ⟨k, rfl⟩, encA_int _ _, by rw [getLo]; rfl⟩ ?_
  refine sem_fill (bytesOf_length h k) rfl rfl rfl rfl ?_
  refine h1.is_.map1 rfl rfl ?_
  refine sem_step _ [tok M.m1, .int .i64 k, tokAt G.length 0] ((Env.ofL []).ans (encG (setG G M k))) rfl rfl ⟨M.m1, _, _, _, rfl, h1.is_.ma, ⟨k, rfl⟩, encA_int _ _, ?_⟩ ?_
  · rw [show tokAt G.length 0 = laC (some (G.length, bytesOf M k)) from rfl, putL_enc]
    rfl
  · exact sem_retG rfl rfl trivial (by rw [hG]; rfl)
/-- Write. -/
def inc (c : Int) : Int := IntKind.i64.wrap (c + 1)
def wrBad (i : Int) (n : Nat) : Bool := decide (i < 0) || decide (512 ≤ i) || decide (128 < n)
def wrM1 (M : DiskM) (i : Int) (bs : List Int) : DiskM := { M with lo := putA M.lo i (pad bs), done := inc M.done }
def wrM (M : DiskM) (i : Int) (bs : List Int) : DiskM := if M.off then M else if wrBad i bs.length then M else strM (wrM1 M i bs)
def wrE (M : DiskM) (i : Int) (bs : List Int) : Int := if M.off then 9 else if wrBad i bs.length then 1 else if strB (wrM1 M i bs) then 9 else 0
def wrG0 (G : List Ob) (bs : List Int) : List Ob := G ++ [.ptr (u8s (pad bs))] ++ [.view G.length 1 0 128]
def wrG1 (G : List Ob) (d : Nat) (M : DiskM) (i : Int) (bs : List Int) : List Ob := ((wrG0 G bs).set M.m2 (.map (encA loC (putA M.lo i (pad bs))))).set d (.ptr (wrM1 M i bs).cells)
def wrG (G : List Ob) (d : Nat) (M : DiskM) (i : Int) (bs : List Int) : List Ob := if M.off then G else if wrBad i bs.length then G else strG (wrG1 G d M i bs) d (wrM1 M i bs)
def wrR (G : List Ob) (l : List Value) (e : Env) : Prop := ∃ d M i v bs, l = [tokAt d 0, .int .i64 i, v] ∧ IsDisk G d M ∧ Sl G v 1 bs.length (u8s bs) ∧ e.i 0 = wrE M i bs ∧ e.g gv = encG (wrG G d M i bs)
def wrC : Con := mkCon 13 [] (.int .i64 (.var 0)) 2
theorem wr1_step {G : List Ob} {d : Nat} {M : DiskM} (h : IsDisk G d M) {i : Int} {bs : List Int} (hb : bs.length ≤ 128) (hi : 0 ≤ i ∧ i < 512) : DStep d M G (wrM1 M i bs) (wrG1 G d M i bs) := by
  have h1 := DStep.of_keeps h (G' := wrG0 G bs) (by unfold wrG0; rw [List.append_assoc]; exact Keeps.append _ _) (by simp [wrG0])
  have h2 := h1.trans (h1.is_.putLo (putA M.lo i (pad bs)) (fun p hp => by
    rcases putA_mem hp with e | hp
    · subst e; exact ⟨pad_length hb, hi⟩
    · exact h.lo p hp) (putA_nodup h.nd))
  exact h2.trans (h2.is_.put (M' := wrM1 M i bs) rfl rfl rfl rfl h.rng)
theorem wr_step {G : List Ob} {d : Nat} {M : DiskM} (h : IsDisk G d M) (i : Int) (bs : List Int) : DStep d M G (wrM M i bs) (wrG G d M i bs) := by
  unfold wrM wrG
  split
  · exact DStep.refl h
  split
  · exact DStep.refl h
  · rename_i hb
    have hb : bs.length ≤ 128 ∧ 0 ≤ i ∧ i < 512 := by
      unfold wrBad at hb
      simp at hb
      omega
    exact (wr1_step h hb.1 hb.2).trans (str_step (wr1_step h hb.1 hb.2).is_)
def treeWrite : Tree :=
 (.call 2 4200 [(.pla (.var 0) (.lit 0) 2), (.var 199)]
 (.split (.var 4200)
 (leafG (.int .i64 (.lit 9)) .nil 199)
 (.split (.cmp .geq (.var 1) (.lit 0))
 (.split (.cmp .lss (.var 1) (.lit 512))
 (.call 15 21200 [(.hnd 2), (.var 199)]
 (.split (.cmp .gtr (.var 21200) (.lit 128))
 (leafG (.int .i64 (.lit 1)) .nil 199)
 (.call 12 25200 [(.var 199)]
 (.call 13 26200 [(.pla (.var 25200) (.lit 0) 0), (.var 26199)]
 (.call 14 28200 [(.hnd 26200), (.hnd 2), (.var 27199)]
 (.call 4 32200 [(.pla (.var 0) (.lit 0) 1), (.var 29199)]
 (.call 5 34200 [(.pla (.var 25200) (.lit 0) 0), (.var 29199)]
 (.call 17 35200 [(.hnd 32200), (.int .i64 (.var 1)), (.var 34200), (.var 29199)]
 (.call 1 39200 [(.pla (.var 0) (.lit 0) 4), (.var 36199)]
 (.call 6 43200 [(.pla (.var 0) (.lit 0) 4), (.int .i64 (.bin .add .i64 (.var 39200) (.lit 1))), (.var 36199)]
 (.call 0 45200 [(.pla (.var 0) (.lit 0) 0), (.var 44199)]
 (.split (.var 45200)
 (leafG (.int .i64 (.lit 9)) .nil 46199)
 (leafG (.int .i64 (.lit 0)) .nil 46199)))))))))))))
 (leafG (.int .i64 (.lit 1)) .nil 199))
 (leafG (.int .i64 (.lit 1)) .nil 199))))
theorem wr_holds : wrC.holds Try.prog (conR wrR) := by
  refine con_of_runG (cs := strC :: dp) (S := conR strR :: dpS) (LT := []) (depth := 1) (fuel := 10) (nv := 200) (av := [dk, .int .i64 (.var 1), .hnd 2]) (T := treeWrite) ⟨str_holds, dp_holds⟩ (by kernel_rfl) (by kernel_rfl) (by kernel_rfl) ?_
  rintro G l e0 ⟨d, M, i, v, bs, rfl, h, hv, he, hG⟩
  have ov := hv.one
  refine ⟨noLoops, (Env.ofL [.int .i64 d, .int .i64 i, v]).st (encG G), by show _ = [_, _, oneOf v]; rw [oneOf_eq ov]; rfl, rfl, ?_⟩
  unfold wrE at he
  unfold wrG at hG
  refine sem_step G [tokAt d 2] (Env.ofL [.bool M.off]) rfl rfl ⟨d, 2, _, _, rfl, cells_ptr h.ob, rfl, rfl⟩ ?_
  refine sem_split (fun ho => ?_) (fun ho => ?_)
  · have ho : M.off = true := ho
    rw [if_pos ho] at he hG
    exact sem_retG rfl (by show Value.int .i64 9 = Value.int .i64 (e0.i 0); rw [he]) trivial (by rw [hG]; rfl)
  have ho : M.off = false := ho
  rw [if_neg (by rw [ho]; simp)] at he hG
  have bad : wrBad i bs.length = true → ∀ (ρ : Env) (h : Tr (List E)) (g : Nat), ρ.g g = encG G → treeSem (conR strR :: dpS) noLoops (KF [] (.int .i64 (.var 0)) e0 2) ρ (leafG (.int .i64 (.lit 1)) h g) := fun hb ρ h g hg => by
    rw [if_pos hb] at he hG
    exact sem_retG rfl (by show Value.int .i64 1 = Value.int .i64 (e0.i 0); rw [he]) trivial (by rw [hG, hg])
  refine sem_split (fun h1 => ?_) (fun h1 => ?_)
  rotate_left
  · have h1 : ¬ i ≥ 0 := of_decide_eq_false h1
    exact bad (by unfold wrBad; rw [decide_eq_true (show i < 0 by omega)]; rfl) _ _ _ rfl
  have h1 : i ≥ 0 := of_decide_eq_true h1
  refine sem_split (fun h2 => ?_) (fun h2 => ?_)
  rotate_left
  · have h2 : ¬ i < 512 := of_decide_eq_false h2
    exact bad (by unfold wrBad; rw [decide_eq_true (show 512 ≤ i by omega), Bool.or_true]; rfl) _ _ _ rfl
  have h2 : i < 512 := of_decide_eq_true h2
  refine sem_step G [v] (Env.ofL [.int .i64 bs.length]) rfl (by show [oneOf v, _] = _; rw [oneOf_eq ov]; rfl) ⟨v, 1, _, _, rfl, hv, rfl⟩ ?_
  refine sem_split (fun h3 => ?_) (fun h3 => ?_)
  · have h3 : ((bs.length : Nat) : Int) > 128 := of_decide_eq_true h3
    exact bad (by unfold wrBad; rw [decide_eq_true (show 128 < bs.length by omega), Bool.or_true]) _ _ _ rfl
  have h3 : ¬ ((bs.length : Nat) : Int) > 128 := of_decide_eq_false h3
  have hb : bs.length ≤ 128 := by omega
  have hi : 0 ≤ i ∧ i < 512 := ⟨h1, h2⟩
  have hnb : wrBad i bs.length = false := by unfold wrBad; rw [decide_eq_false (by omega), decide_eq_false (by omega), decide_eq_false (by omega)]; rfl
  rw [if_neg (by rw [hnb]; simp)] at he hG
  have hal : (G ++ [Ob.ptr (List.replicate 128 (Value.int .u8 0))])[G.length]? = some (.ptr (List.replicate 128 (Value.int .u8 0))) := by rw [List.getElem?_append_right (Nat.le_refl _), Nat.sub_self]; rfl
  have hlz : (List.replicate 128 (Value.int .u8 0)).length = 128 := List.length_replicate
  refine sem_step G [] ((Env.ofL [.int .i64 G.length]).ans (encG (G ++ [Ob.ptr (List.replicate 128 (Value.int .u8 0))]))) rfl rfl ⟨rfl, rfl, rfl⟩ ?_
  obtain ⟨G1, hG1⟩ : ∃ g, g = G ++ [Ob.ptr (List.replicate 128 (Value.int .u8 0))] := ⟨_, rfl⟩
  have hl1 : G1.length = G.length + 1 := by rw [hG1]; simp
  rw [← hG1] at hal ⊢
  refine sem_step G1 [tokAt G.length 0] ((Env.ofL [tok (G.length + 1)]).ans (encG (G1 ++ [.view G.length 1 0 128]))) rfl rfl ⟨G.length, _, rfl, hal, hlz, by rw [hl1]; rfl, rfl⟩ ?_
  have hv2 : Sl (G1 ++ [.view G.length 1 0 128]) v 1 bs.length (u8s bs) := by rw [hG1, List.append_assoc]; exact hv.append
  have hw0 : (G1 ++ [Ob.view G.length 1 0 128]).set G.length (.ptr (overV (List.replicate 128 (Value.int .u8 0)) 0 ((u8s bs).take (min bs.length 128)))) = wrG0 G bs := by
    rw [over_pad hb, List.set_append_left _ _ (by omega), hG1, List.set_append_right _ _ (Nat.le_refl _), Nat.sub_self]
    rfl
  refine sem_step (G1 ++ [.view G.length 1 0 128]) [tok (G.length + 1), v] ((Env.ofL [.int .i64 (min bs.length 128 : Nat)]).ans (encG (wrG0 G bs))) rfl (by show [_, oneOf v, _] = _; rw [oneOf_eq ov]; rfl)
    ⟨G.length + 1, G.length, 0, 128, v, bs.length, u8s bs, _, rfl, by rw [List.getElem?_append_right (by omega), hl1, Nat.sub_self]; rfl, by rw [List.getElem?_append_left (by omega)]; exact hal, by rw [hlz]; omega, by decide, hv2, rfl, by rw [hw0]; rfl⟩ ?_
  have k0 := DStep.of_keeps h (G' := wrG0 G bs) (by unfold wrG0; rw [List.append_assoc]; exact Keeps.append _ _) (by simp [wrG0])
  have hsec : (wrG0 G bs)[G.length]? = some (.ptr (u8s (pad bs))) := by
    unfold wrG0
    rw [List.append_assoc, List.getElem?_append_right (Nat.le_refl _), Nat.sub_self]
    rfl
  refine k0.is_.map2 rfl rfl ?_
  refine sem_step (wrG0 G bs) [tokAt G.length 0] (Env.ofL [loC (pad bs)]) rfl rfl ⟨G.length, 0, _, rfl, cells_ptr hsec, by rw [List.length_map, pad_length hb]; omega, ?_⟩ ?_
  · rw [List.drop_zero, List.take_of_length_le (by rw [List.length_map, pad_length hb]; exact Nat.le_refl _)]
    rfl
  have k1 := k0.is_.putLo (putA M.lo i (pad bs)) (fun p hp => by
    rcases putA_mem hp with e | hp
    · subst e; exact ⟨pad_length hb, hi⟩
    · exact h.lo p hp) (putA_nodup h.nd)
  refine sem_step (wrG0 G bs) [tok M.m2, .int .i64 i, loC (pad bs)] ((Env.ofL []).ans (encG ((wrG0 G bs).set M.m2 (.map (encA loC (putA M.lo i (pad bs))))))) rfl rfl ⟨M.m2, _, _, _, rfl, k0.is_.mo, ⟨i, rfl⟩, encA_int _ _, by rw [putL_enc]; rfl⟩ ?_
  refine sem_step _ [tokAt d 4] (Env.ofL [.int .i64 M.done]) rfl rfl ⟨d, 4, _, _, rfl, cells_ptr k1.is_.ob, rfl, rfl⟩ ?_
  refine sem_set1 (v := .int .i64 (inc M.done)) k1.is_.ob (by show 4 < 5; omega) rfl rfl rfl (fun cs e => by cases e) rfl ?_
  have k2 := wr1_step h hb hi
  refine sem_step (wrG1 G d M i bs) [tokAt d 0] ((Env.ofL [.bool (strB (wrM1 M i bs))]).ans (encG (strG (wrG1 G d M i bs) d (wrM1 M i bs)))) rfl rfl ⟨d, wrM1 M i bs, rfl, k2.is_, rfl, rfl⟩ ?_
  refine sem_split (fun hs => ?_) (fun hs => ?_)
  · have hs : strB (wrM1 M i bs) = true := hs
    rw [if_pos hs] at he
    exact sem_retG rfl (by show Value.int .i64 9 = Value.int .i64 (e0.i 0); rw [he]) trivial (by rw [hG]; rfl)
  · have hs : strB (wrM1 M i bs) = false := hs
    rw [if_neg (by rw [hs]; simp)] at he
    exact sem_retG rfl (by show Value.int .i64 0 = Value.int .i64 (e0.i 0); rw [he]) trivial (by rw [hG]; rfl)
end Go.Proofs.Ytaigdbnfhehclaa
