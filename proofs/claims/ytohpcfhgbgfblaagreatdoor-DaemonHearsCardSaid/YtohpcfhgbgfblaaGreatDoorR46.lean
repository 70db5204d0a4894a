/- What is proved: parts of the walk and of the plain law, 1 texts in one. No condition but those each law names. -/
import Derived.Test.YtohpcfhgbgfblaaGreatDoorR00
namespace Go.Proofs.YtohpcfhgbgfblaaGreatDoor
open Go
namespace Lx
/-- dst, what is looked at, binding edges. -/
abbrev Row := Nat × List Nat × List Nat
def mem (x : Nat) : List Nat → Bool
  | [] => false
  | y :: l => cond (Nat.beq x y) true (mem x l)
def pairOk (k : Nat) (a b : Row) : Bool := cond (mem k b.2.2) true (cond (mem a.1 b.2.1) false (cond (Nat.beq b.1 a.1) false (cond (mem b.1 a.2.1) false true)))
def pairsOk (k : Nat) (a : Row) : List Row → Bool
  | [] => true
  | b :: l => cond (pairOk k a b) (pairsOk k a l) false
def below (k : Nat) : List Nat → Bool
  | [] => true
  | e :: l => cond (Nat.blt e k) (below k l) false
def chk (k : Nat) : List Row → Bool
  | [] => true
  | a :: l => cond (below k a.2.2) (cond (pairsOk k a l) (chk (k + 1) l) false) false
/-- The row of an operation that writes a temporary. -/
def isRow (ops : Array Oper) (o : Oper) (r : Row) : Prop := o.dst = some r.1 ∧ o.looksAt ops = r.2.1 ∧ o.after.toList.map (·.on) = r.2.2
theorem mem_iff {x : Nat} : ∀ {l : List Nat}, mem x l = true ↔ x ∈ l
  | [] => by simp [mem]
  | y :: l => by
    unfold mem
    have := @mem_iff x l
    cases h : Nat.beq x y
    · have hne : x ≠ y := fun e => by rw [e, Nat.beq_refl] at h; cases h
      simp [this, hne]
    · have := Nat.eq_of_beq_eq_true h
      simp [this]
theorem below_iff {k : Nat} : ∀ {l : List Nat}, below k l = true → ∀ e ∈ l, e < k
  | [], _ => by simp
  | y :: l, h => by
    unfold below at h
    cases hb : Nat.blt y k
    · rw [hb] at h; cases h
    · rw [hb] at h
      intro e he
      rcases List.mem_cons.1 he with rfl | he
      · exact Nat.le_of_ble_eq_true hb
      · exact below_iff h e he
theorem pairsOk_spec {k : Nat} {a : Row} : ∀ {l : List Row}, pairsOk k a l = true → ∀ b ∈ l, pairOk k a b = true
  | [], _ => by simp
  | b :: l, h => by
    unfold pairsOk at h
    cases hb : pairOk k a b
    · rw [hb] at h; cases h
    · rw [hb] at h
      intro c hc
      rcases List.mem_cons.1 hc with rfl | hc
      · exact hb
      · exact pairsOk_spec h c hc
theorem apart_of {ops : Array Oper} {k : Nat} {x y : Oper} {a b : Row} (hx : isRow ops x a) (hy : isRow ops y b) (h : pairOk k a b = true) (md : Region.Mode) (hmd : ∀ e ∈ y.after, Region.binds md e = true) : (y.after.any (fun e => Region.binds md e && e.on == k) || x.apart ops y) = true := by
  unfold pairOk at h
  cases h1 : mem k b.2.2
  · rw [h1] at h
    cases h2 : mem a.1 b.2.1
    · rw [h2] at h
      cases h3 : Nat.beq b.1 a.1
      · rw [h3] at h
        cases h4 : mem b.1 a.2.1
        · have e3 : b.1 ≠ a.1 := fun e => by rw [e, Nat.beq_refl] at h3; cases h3
          have e2 : a.1 ∉ b.2.1 := fun e => by rw [mem_iff.2 e] at h2; cases h2
          have e4 : b.1 ∉ a.2.1 := fun e => by rw [mem_iff.2 e] at h4; cases h4
          have : x.apart ops y = true := by
            unfold Oper.apart
            rw [hx.1, hy.1, hx.2.1, hy.2.1]
            simp [e2, e3, e4]
          rw [this, Bool.or_true]
        · rw [h4] at h; cases h
      · rw [h3] at h; cases h
    · rw [h2] at h; cases h
  · have hm := mem_iff.1 h1
    rw [← hy.2.2] at hm
    obtain ⟨e, he, rfl⟩ := List.mem_map.1 hm
    have : y.after.any (fun e' => Region.binds md e' && e'.on == e.on) = true := by
      rw [Array.any_eq_true']
      exact ⟨e, by simpa using he, by simp [hmd e (by simpa using he)]⟩
    rw [this, Bool.true_or]
/-- The first k are listed. -/
def Front (listed : Array Bool) (n k : Nat) : Prop := ∀ j d, listed.getD j d = if j < n then decide (j < k) else d
theorem front_set {listed : Array Bool} {n k : Nat} (h : Front listed n k) (hs : listed.size = n) (hk : k < n) : Front (listed.setIfInBounds k true) n (k + 1) := by
  intro j d
  by_cases hj : k = j
  · subst hj
    simp [hs, hk]
  · rw [getD_set_ne d hj, h j d]
    split
    · congr 1
      simp only [eq_iff_iff]
      omega
    · rfl
theorem lexFrom_of {md : Region.Mode} {ops : Array Oper} (hb : ∀ o ∈ ops, ∀ e ∈ o.after, Region.binds md e = true) (T : List Row) (hT : ∀ (j : Nat) (o : Oper), ops[j]? = some o → ∃ r, T[j]? = some r ∧ isRow ops o r) (hl : T.length = ops.size) : ∀ (fuel k : Nat) (listed : Array Bool), k + fuel = ops.size → listed.size = ops.size → Front listed ops.size k → chk k (T.drop k) = true → Region.lexFrom md ops fuel k listed = true
  | 0, k, listed, hk, hs, hf, _ => by
    unfold Region.lexFrom
    rw [List.isEmpty_iff]
    apply List.eq_nil_iff_forall_not_mem.2
    intro j hj
    obtain ⟨h0, o, ho, _⟩ := mem_ready.1 hj
    have hlt : j < ops.size := (Array.getElem?_eq_some_iff.1 ho).1
    rw [hf j true, if_pos hlt] at h0
    simp at h0
    omega
  | fuel + 1, k, listed, hk, hs, hf, hc => by
    have hkn : k < ops.size := by omega
    obtain ⟨o, ho⟩ : ∃ o, ops[k]? = some o := ⟨_, Array.getElem?_eq_getElem hkn⟩
    obtain ⟨r, hr, hrow⟩ := hT k o ho
    have hd : T.drop k = r :: T.drop (k + 1) := by
      have hkT : k < T.length := by omega
      rw [List.drop_eq_getElem_cons hkT]
      congr 1
      exact (List.getElem?_eq_some_iff.1 hr).2
    rw [hd] at hc
    unfold chk at hc
    cases h1 : below k r.2.2
    · rw [h1] at hc; cases hc
    rw [h1] at hc
    cases h2 : pairsOk k r (T.drop (k + 1))
    · rw [h2] at hc; cases hc
    rw [h2] at hc
    unfold Region.lexFrom
    rw [Bool.and_eq_true, Bool.and_eq_true]
    refine ⟨⟨?_, ?_⟩, lexFrom_of hb T hT hl fuel (k + 1) _ (by omega) (by simpa using hs) (front_set hf hs hkn) hc⟩
    · rw [List.contains_iff_mem, mem_ready]
      refine ⟨by rw [hf k true, if_pos hkn]; simp, o, ho, fun e he _ => ?_⟩
      have hlt : e.on < k := by
        apply below_iff h1
        rw [← hrow.2.2]
        exact List.mem_map.2 ⟨e, by simpa using he, rfl⟩
      rw [hf e.on false, if_pos (by omega)]
      simpa using hlt
    · unfold Region.free
      rw [ho]
      simp only [List.all_eq_true, List.mem_range]
      intro j hj
      by_cases hjk : j = k
      · simp [hjk]
      rw [hf j true, if_pos hj]
      by_cases hlt : j < k
      · simp [hlt]
      obtain ⟨o', ho'⟩ : ∃ o, ops[j]? = some o := ⟨_, Array.getElem?_eq_getElem hj⟩
      obtain ⟨r', hr', hrow'⟩ := hT j o' ho'
      have hin : r' ∈ T.drop (k + 1) := by
        apply List.mem_of_getElem? (i := j - (k + 1))
        rw [List.getElem?_drop]
        rw [← hr']
        congr 1
        omega
      have := apart_of hrow hrow' (pairsOk_spec h2 r' hin) md (hb o' (Array.mem_of_getElem? ho'))
      rw [ho']
      simp only [this, Bool.or_true]
/-- Rows of operations, one by one. -/
def Rows (ops : Array Oper) : List Oper → List Row → Prop
  | [], [] => True
  | o :: l, r :: t => isRow ops o r ∧ Rows ops l t
  | _, _ => False
theorem rows_get {ops : Array Oper} : ∀ {l : List Oper} {t : List Row}, Rows ops l t → l.length = t.length ∧ ∀ (j : Nat) (o : Oper), l[j]? = some o → ∃ r, t[j]? = some r ∧ isRow ops o r
  | [], [], _ => ⟨rfl, fun j o h => by simp at h⟩
  | [], _ :: _, h => h.elim
  | _ :: _, [], h => h.elim
  | o :: l, r :: t, h => by
    obtain ⟨h1, h2⟩ := rows_get h.2
    refine ⟨by simp [h1], fun j o' hj => ?_⟩
    cases j with
    | zero => simp at hj; subst hj; exact ⟨r, by simp, h.1⟩
    | succ j => simp at hj; simpa using h2 j o' hj
/-- The row of an operation, reckoned. -/
def rowFor (ops : Array Oper) (o : Oper) : Row := (o.dst.getD 0, o.looksAt ops, o.after.toList.map (·.on))
def plainB (md : Region.Mode) (o : Oper) : Bool := o.dst.isSome && o.after.toList.all (Region.binds md)
theorem rows_map {ops : Array Oper} {md : Region.Mode} : ∀ {l : List Oper}, l.all (plainB md) = true → Rows ops l (l.map (rowFor ops))
  | [], _ => trivial
  | o :: l, h => by
    simp only [List.all_cons, Bool.and_eq_true] at h
    refine ⟨⟨?_, rfl, rfl⟩, rows_map h.2⟩
    have := h.1
    unfold plainB at this
    simp only [Bool.and_eq_true] at this
    obtain ⟨d, hd⟩ := Option.isSome_iff_exists.1 this.1
    simp [rowFor, hd]
/-- THE TEST. -/
theorem lexB_of {l : List Oper} {md : Region.Mode} {T : List Row} (hs : Region.noSelect l.toArray = true) (hp : l.all (plainB md) = true) (hT : l.map (rowFor l.toArray) = T) (hc : chk 0 T = true) : Region.lexB md l.toArray = true := by
  have hr := rows_get (rows_map (ops := l.toArray) hp)
  rw [hT] at hr
  unfold Region.lexB
  rw [hs, Bool.true_and]
  refine lexFrom_of (md := md) (fun o ho e he => ?_) T (fun j o h => hr.2 j o (by simpa using h)) (by simpa using hr.1.symm) _ 0 _ (by simp) (by simp) (fun j d => ?_) hc
  · have := List.all_eq_true.1 hp o (by simpa using ho)
    unfold plainB at this
    simp only [Bool.and_eq_true, List.all_eq_true] at this
    exact this.2 e (by simpa using he)
  · by_cases h : j < l.toArray.size
    · have h' : j < l.length := by simpa using h
      simp [h']
    · have h' : ¬ j < l.length := by simpa using h
      simp [h']
end Lx
end Go.Proofs.YtohpcfhgbgfblaaGreatDoor
