/- What is proved: lists of calls that come in, as objects that are only read. No condition. -/
import Derived.Test.YtcedgoaanlbldaaT5
namespace Go.Proofs.Ytcedgoaanlbldaa
open Sx hiding Sl
open Go.RowKit hiding tok
/-- A call, in names. -/
structure OD where
  kd : Int
  i : Int
  vB : Value
  bs : List Int
  vK : Value
  ks : List Int
def OD.cells (x : OD) : List Value := opV x.kd x.i x.vB x.vK
def rowO : List OD → List Value
  | [] => []
  | x :: r => x.cells ++ rowO r
theorem rowO_length : ∀ r : List OD, (rowO r).length = r.length * 4
  | [] => rfl
  | x :: r => by
    show (x.cells ++ rowO r).length = _
    rw [List.length_append, rowO_length r, List.length_cons]
    show 4 + _ = _
    omega
theorem rowO_get : ∀ (r : List OD) (j : Nat), (rowO r)[j]? = (r[j / 4]?).bind fun x => x.cells[j % 4]?
  | [], j => by simp [rowO]
  | x :: r, j => by
    show (x.cells ++ rowO r)[j]? = _
    by_cases h : j < 4
    · rw [List.getElem?_append_left (by show j < 4; exact h), Nat.div_eq_of_lt h, Nat.mod_eq_of_lt h]
      rfl
    · rw [List.getElem?_append_right (by show 4 ≤ j; omega)]
      show (rowO r)[j - 4]? = _
      rw [rowO_get r, show j / 4 = (j - 4) / 4 + 1 by omega, show j % 4 = (j - 4) % 4 by omega]
      rfl
/-- A list of calls in the store. -/
structure Ops (G : List Ob) (v : Value) (L : List OD) : Prop where
  row : (v = .slice none 0 0 ∧ L = []) ∨ ∃ d, v = tok d ∧ G[d]? = some (.ro 4 L.length (rowO L))
  body : ∀ x ∈ L, Body G x.vB x.bs ∧ BodyI G x.vK x.ks ∧ x.bs.length ≤ 140737488355327 ∧ x.ks.length ≤ 140737488355327 ∧ x.i < 9223372036854775808
  len : L.length ≤ 9223372036854775807
def hV (ao : Option Addr) (n : Nat) : Value := if ao.isNone then .slice none 0 0 else tok n
def OpW.od (x : OpW) (n : Nat) : OD := ⟨x.kd, x.i, hV x.ao n, x.bs.map Int.ofNat, hV x.bo (n + 1), x.ks⟩
def OpW.roB (x : OpW) : RoW := ⟨x.ao.getD ⟨0, 0, none⟩, 1, x.bs.length, x.cap, x.bs.map fun (n : Nat) => Value.int .u8 (n : Int)⟩
def OpW.roK (x : OpW) : RoW := ⟨x.bo.getD ⟨0, 0, none⟩, 1, x.ks.length, x.dap, x.ks.map (Value.int .i64)⟩
def odsFrom (n : Nat) : List OpW → List OD
  | [] => []
  | x :: r => x.od n :: odsFrom (n + 2) r
def opRows : List OpW → List RoW
  | [] => []
  | x :: r => x.roB :: x.roK :: opRows r
theorem odsFrom_length : ∀ (L : List OpW) (n : Nat), (odsFrom n L).length = L.length
  | [], _ => rfl
  | x :: r, n => by simp [odsFrom, odsFrom_length r]
theorem odsFrom_get : ∀ (L : List OpW) (n j : Nat), (odsFrom n L)[j]? = (L[j]?).map fun x => x.od (n + 2 * j)
  | [], n, j => by simp [odsFrom]
  | x :: r, n, 0 => by simp [odsFrom]
  | x :: r, n, j + 1 => by
    simp only [odsFrom, List.getElem?_cons_succ, odsFrom_get r]
    rw [show n + 2 + 2 * j = n + 2 * (j + 1) by omega]
theorem opRows_length : ∀ L : List OpW, (opRows L).length = 2 * L.length
  | [] => rfl
  | x :: r => by simp [opRows, opRows_length r]; omega
theorem opRows_get : ∀ (L : List OpW) (j : Nat) x, L[j]? = some x → (opRows L)[2 * j]? = some x.roB ∧ (opRows L)[2 * j + 1]? = some x.roK
  | [], _, _, h => by cases h
  | x :: r, 0, _, h => by cases h; exact ⟨rfl, rfl⟩
  | x :: r, j + 1, y, h => by
    have := opRows_get r j y h
    rw [show 2 * (j + 1) = 2 * j + 1 + 1 by omega]
    exact this
theorem opRows_mem : ∀ {L : List OpW} {r : RoW}, r ∈ opRows L → ∃ (j : Nat) (x : OpW), L[j]? = some x ∧ (r = x.roB ∨ r = x.roK)
  | x :: l, r, h => by
    rcases List.mem_cons.1 h with rfl | h
    · exact ⟨0, x, rfl, .inl rfl⟩
    · rcases List.mem_cons.1 h with rfl | h
      · exact ⟨0, x, rfl, .inr rfl⟩
      · obtain ⟨j, y, h1, h2⟩ := opRows_mem h
        exact ⟨j + 1, y, h1, h2⟩
/-- One row of plain cells, or none. -/
theorem ro_row {w : World} {R : List RoW} {ao : Option Addr} {n c : Nat} {cells : List Value} (h : Sl w ao n c cells) (hn : cells.length = n) (hp : ∀ x ∈ cells, Plain1 x) : RowOk w R ⟨ao.getD ⟨0, 0, none⟩, 1, n, c, cells⟩ := by
  cases ao with
  | none =>
    have hc := h.nil rfl
    have hle := h.le
    have e0 : cells = [] := List.eq_nil_of_length_eq_zero (by omega)
    refine ⟨h.le, by show cells.length = n * 1; omega, fun h0 => ?_, fun j y hj => ?_⟩
    · have h0 : 0 < cells.length := h0
      rw [e0] at h0; cases h0
    · have hj : cells[j]? = some y := hj
      rw [e0] at hj; cases hj
  | some p => exact row_ok h hp
theorem hv_ok {w : World} {R Rp : List RoW} {o i : Nat} {r : RoW} (hR : At R Rp o) (hi : Rp[i]? = some r) {ao : Option Addr} {n c : Nat} {cells : List Value} (h : Sl w ao n c cells) (ha : ao = none ∨ ao = some r.a) (e1 : r.len = n) (e2 : r.cap = c) :
    concE (rH R) (hV ao (o + i)) = .slice ao n c ∧ Sx.Inv (rH R) R.length (hV ao (o + i)) ∧ (hV ao (o + i)).oneCell' = true := by
  unfold hV
  rcases ha with rfl | rfl
  · have hc := h.nil rfl
    have hle := h.le
    rw [show n = 0 by omega, hc]
    exact ⟨rfl, Inv.of_const fun _ => rfl, rfl⟩
  · obtain ⟨t1, t2⟩ := hR.tok hi
    exact ⟨by rw [← e1, ← e2]; exact t1, t2, rfl⟩
theorem ops_part {w : World} {v : Value} {L : List OpW} (h : OpsW w v L) (o : Nat) : ∃ Rp v' L', InRows w o Rp v v' (fun G => Ops G v' L') := by
  rcases h with ⟨rfl, rfl⟩ | ⟨a, c, rfl, hle, hmx, hat⟩
  · exact ⟨[], .slice none 0 0, [], fun R _ => ⟨fun r hr => (by cases hr), ⟨.inl ⟨rfl, rfl⟩, fun x hx => (by cases hx), Nat.zero_le _⟩, rfl, Inv.of_const fun _ => rfl⟩⟩
  · obtain ⟨main, hmain⟩ : ∃ m : RoW, m = ⟨a, 4, L.length, c, rowO (odsFrom o L)⟩ := ⟨_, rfl⟩
    refine ⟨opRows L ++ [main], tok (o + 2 * L.length), odsFrom o L, fun R hR => ?_⟩
    have hlo : ∀ (i : Nat) x, L[i]? = some x → (opRows L ++ [main])[2 * i]? = some x.roB ∧ (opRows L ++ [main])[2 * i + 1]? = some x.roK := fun i x hx => by
      have := (List.getElem?_eq_some_iff.1 hx).1
      obtain ⟨g1, g2⟩ := opRows_get L i x hx
      exact ⟨by rw [List.getElem?_append_left (by rw [opRows_length]; omega)]; exact g1, by rw [List.getElem?_append_left (by rw [opRows_length]; omega)]; exact g2⟩
    have hhi : (opRows L ++ [main])[2 * L.length]? = some main := by rw [List.getElem?_append_right (by rw [opRows_length]; omega), opRows_length, Nat.sub_self]; rfl
    have hB : ∀ (i : Nat) x, L[i]? = some x → concE (rH R) (hV x.ao (o + 2 * i)) = x.vB ∧ Sx.Inv (rH R) R.length (hV x.ao (o + 2 * i)) ∧ (hV x.ao (o + 2 * i)).oneCell' = true := fun i x hx =>
      hv_ok hR (hlo i x hx).1 (hat i x hx).2.sB (by cases e : x.ao with | none => exact .inl rfl | some p => right; show some p = some (x.ao.getD _); rw [e]; rfl) rfl rfl
    have hK : ∀ (i : Nat) x, L[i]? = some x → concE (rH R) (hV x.bo (o + 2 * i + 1)) = x.vK ∧ Sx.Inv (rH R) R.length (hV x.bo (o + 2 * i + 1)) ∧ (hV x.bo (o + 2 * i + 1)).oneCell' = true := fun i x hx =>
      hv_ok (i := 2 * i + 1) hR (hlo i x hx).2 (hat i x hx).2.sK (by cases e : x.bo with | none => exact .inl rfl | some p => right; show some p = some (x.bo.getD _); rw [e]; rfl) rfl rfl
    refine ⟨fun r hr => ?_, ⟨.inr ⟨_, rfl, ?_⟩, fun x hx => ?_, ?_⟩, by have := hR.tok hhi; rw [hmain] at this; exact this⟩
    · rcases List.mem_append.1 hr with hr | hr
      · obtain ⟨i, x, hi, hx⟩ := opRows_mem hr
        have s := (hat i x hi).2
        rcases hx with rfl | rfl
        · exact ro_row s.sB (by rw [List.length_map]) fun y hy => (by obtain ⟨k, _, rfl⟩ := List.mem_map.1 hy; exact ⟨rfl, fun _ => rfl⟩)
        · exact ro_row s.sK (by rw [List.length_map]) fun y hy => (by obtain ⟨k, _, rfl⟩ := List.mem_map.1 hy; exact ⟨rfl, fun _ => rfl⟩)
      · rw [List.mem_singleton] at hr
        rw [hr, hmain]
        refine ⟨hle, by rw [rowO_length, odsFrom_length], fun h0 => ?_, fun j cc hj => ?_⟩
        · have h0 : 0 < (rowO (odsFrom o L)).length := h0
          rw [rowO_length, odsFrom_length] at h0
          rw [(hat 0 _ (List.getElem?_eq_getElem (by omega))).1]
        · have hj : (rowO (odsFrom o L))[j]? = some cc := hj
          rw [rowO_get, odsFrom_get, Option.bind_eq_some_iff] at hj
          obtain ⟨x', hx', hj⟩ := hj
          rw [Option.map_eq_some_iff] at hx'
          obtain ⟨x, hx, rfl⟩ := hx'
          obtain ⟨ha, hs⟩ := hat _ x hx
          have q0 := hs.c0
          have q1 := hs.c1
          have q2 := hs.c2
          have q3 := hs.c3
          obtain ⟨y1, y2, y3⟩ := hB _ x hx
          obtain ⟨z1, z2, z3⟩ := hK _ x hx
          rw [ha] at q0 q1 q2 q3
          simp only [add_plain_addr] at q0 q1 q2 q3
          have hm := Nat.mod_lt j (show 0 < 4 by decide)
          have hdm := Nat.div_add_mod j 4
          show CellN w (rH R) R.length a.block (a.off + j) cc
          obtain ⟨m, hm'⟩ : ∃ m, m = j % 4 := ⟨_, rfl⟩
          rw [← hm'] at hj hm hdm
          match m, hm with
          | 0, _ =>
            cases hj
            exact ⟨by rw [show a.off + j = a.off + j / 4 * 4 by omega]; exact q0, rfl, Inv.of_const fun _ => rfl⟩
          | 1, _ =>
            cases hj
            exact ⟨by rw [show a.off + j = a.off + j / 4 * 4 + 1 by omega]; exact q1, rfl, Inv.of_const fun _ => rfl⟩
          | 2, _ =>
            cases hj
            exact ⟨by rw [show a.off + j = a.off + j / 4 * 4 + 2 by omega, q2]; exact congrArg some y1.symm, y3, y2⟩
          | 3, _ =>
            cases hj
            exact ⟨by rw [show a.off + j = a.off + j / 4 * 4 + 3 by omega, q3]; exact congrArg some z1.symm, z3, z2⟩
    · rw [hR.ob hhi, odsFrom_length, hmain]; rfl
    · obtain ⟨j, hj⟩ := List.getElem?_of_mem hx
      rw [odsFrom_get, Option.map_eq_some_iff] at hj
      obtain ⟨y, hy, rfl⟩ := hj
      have s := (hat j y hy).2
      refine ⟨?_, ?_, by simpa [OpW.od] using s.lB, s.lK, s.lI⟩
      · show Body _ (hV y.ao (o + 2 * j)) (y.bs.map Int.ofNat)
        unfold hV
        cases hao : y.ao with
        | none =>
          have hc := s.sB.nil hao
          have := s.sB.le
          exact .inl ⟨rfl, by rw [List.eq_nil_of_length_eq_zero (show y.bs.length = 0 by omega)]; rfl⟩
        | some p =>
          refine .inr ⟨o + 2 * j, rfl, ?_⟩
          rw [hR.ob (hlo j y hy).1, List.length_map, List.map_map]
          rfl
      · show BodyI _ (hV y.bo (o + 2 * j + 1)) y.ks
        unfold hV
        cases hao : y.bo with
        | none =>
          have hc := s.sK.nil hao
          have := s.sK.le
          exact .inl ⟨rfl, List.eq_nil_of_length_eq_zero (show y.ks.length = 0 by omega)⟩
        | some p =>
          refine .inr ⟨o + 2 * j + 1, rfl, ?_⟩
          have := hR.ob (hlo j y hy).2
          rw [show o + (2 * j + 1) = o + 2 * j + 1 by omega] at this
          rw [this]
          rfl
    · rw [odsFrom_length]; exact hmx
end Go.Proofs.Ytcedgoaanlbldaa
