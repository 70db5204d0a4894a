/- What is proved: the contract of SpoilBytes, of rows and of parts of arrays. No condition but those each law names. -/
import Derived.Test.YtcedgoaanlbldaaM2
namespace Go.Proofs.Ytcedgoaanlbldaa
open Sx
set_option maxRecDepth 100000

/-- A slice that can be written: its object's number, and how the object stands on its cells. -/
structure MutAt (G : List Ob) (v : Value) (n k : Nat) (f : List Value → Ob) (cells : List Value) : Prop where
  at_ : G[k]? = some (f cells)
  len : cells.length = n
  sin : ∀ cs, SlIn (G.set k (f cs)) v k 0 1 n
  op : ∀ cs, (f cs).open_ = true ∧ (f cs).cells? = some cs ∧ ∀ cs', (f cs).with_ cs' = f cs'
def Mut (G : List Ob) (v : Value) (n : Nat) : Prop := (v = .slice none 0 0 ∧ n = 0) ∨ ∃ k f cells, MutAt G v n k f cells
theorem mut_row {G : List Ob} {d n : Nat} {cells : List Value} (h : G[d]? = some (.row 1 n cells)) (hl : cells.length = n) : MutAt G (tok d) n d (.row 1 n) cells :=
  ⟨h, hl, fun cs => ⟨d, rfl, .inl ⟨cs, .inl (by rw [List.getElem?_set_self (List.getElem?_eq_some_iff.1 h).1]), rfl, rfl⟩⟩, fun _ => ⟨rfl, rfl, fun _ => rfl⟩⟩
theorem mut_view {G : List Ob} {d m n : Nat} {cells : List Value} (hd : G[d]? = some (.view m 1 0 n)) (hm : G[m]? = some (.ptr cells)) (hl : cells.length = n) (hlt : m < d) : MutAt G (tok d) n m .ptr cells :=
  ⟨hm, hl, fun cs => ⟨d, rfl, .inr ⟨by rw [List.getElem?_set_ne (by omega)]; exact hd, hlt⟩⟩, fun _ => ⟨rfl, rfl, fun _ => rfl⟩⟩
def mkI (i : Int) : Int := IntKind.u8.wrap (IntKind.i64.wrap (201 + IntKind.i64.wrap (7 * IntKind.i64.wrap (i + 7))))
def marks (n : Nat) : List Value := (List.range n).map fun (i : Nat) => Value.int .u8 (mkI i)
def spG (G : List Ob) (v : Value) (n : Nat) : List Ob := match v with
  | .pointer (some a) => match G[a.block]? with
    | some (.row _ _ _) => G.set a.block (.row 1 n (marks n))
    | some (.view m _ _ _) => G.set m (.ptr (marks n))
    | _ => G
  | _ => G
theorem spG_row {G : List Ob} {d n : Nat} {cells : List Value} (h : G[d]? = some (.row 1 n cells)) : spG G (tok d) n = G.set d (.row 1 n (marks n)) := by
  show (match G[d]? with | some (.row _ _ _) => _ | some (.view m _ _ _) => _ | _ => _) = _
  rw [h]
theorem spG_view {G : List Ob} {d m n : Nat} (h : G[d]? = some (.view m 1 0 n)) : spG G (tok d) n = G.set m (.ptr (marks n)) := by
  show (match G[d]? with | some (.row _ _ _) => _ | some (.view m _ _ _) => _ | _ => _) = _
  rw [h]
theorem spG_len (G : List Ob) (v : Value) (n : Nat) : (spG G v n).length = G.length := by
  unfold spG
  split
  · split <;> simp
  · rfl
def spoR (G : List Ob) (l : List Value) (e : Env) : Prop := ∃ v n, l = [v] ∧ n ≤ 1000000 ∧
  ((v = .slice none 0 0 ∧ n = 0 ∧ e.g gv = encG G) ∨ ∃ k f cells, MutAt G v n k f cells ∧ e.g gv = encG (G.set k (f (marks n))))
def spoC : Con := mkCon 41 [] (.tup []) 2
def spLQ (G : List Ob) (n k : Nat) (f : List Value → Ob) (cells : List Value) : LoopS := ⟨fun _ nv ρ => ∃ j : Nat, ρ.g (nv + 999) = encG (G.set k (f (marks j ++ cells.drop j))) ∧ ρ.i nv = j ∧ j ≤ n, fun _ nv ρ => ((n : Int) - ρ.i nv).toNat⟩
theorem marks_succ {j : Nat} {cells : List Value} (h : j < cells.length) : (marks j ++ cells.drop j).set j (Value.int .u8 (mkI j)) = marks (j + 1) ++ cells.drop (j + 1) := by
  have hm : (marks j).length = j := by simp [marks]
  rw [List.set_append_right _ _ (by omega), hm, Nat.sub_self, List.drop_eq_getElem_cons h, List.set_cons_zero]
  unfold marks
  rw [List.range_succ, List.map_append, List.append_assoc]
  rfl
theorem set_same {G : List Ob} {k : Nat} {o : Ob} (h : G[k]? = some o) : G.set k o = G := by
  apply List.ext_getElem?
  intro j
  by_cases e : k = j
  · subst e
    rw [List.getElem?_set_self (List.getElem?_eq_some_iff.1 h).1, h]
  · rw [List.getElem?_set_ne e]
def nilLQ (G : List Ob) : LoopS := ⟨fun _ nv ρ => ρ.g (nv + 999) = encG G ∧ ρ.i nv = 0, fun _ _ _ => 0⟩
def treeSpoil : Tree :=
 (.loop 1 1200 [(1200, (.int .i64 (.lit 0))), (2199, (.var 199))]
 (.call 3 4200 [(.hnd 0), (.var 2199)]
 (.split (.cmp .lss (.var 1200) (.var 4200))
 (.call 4 22200 [(.hnd 0), (.int .i64 (.var 1200)), (.var 2199)]
 (.call 7 23200 [(.pla (.var 22200) (.var 22201) 0), (.int .u8 (.wrap .u8 (.bin .add .i64 (.lit 201) (.bin .mul .i64 (.lit 7) (.bin .add .i64 (.var 1200) (.lit 7)))))), (.var 2199)]
 (.again 1 1200 [(1200, (.int .i64 (.bin .add .i64 (.var 1200) (.lit 1)))), (2199, (.var 24199))])))
 (leafG (.tup ([])) .nil 2199))))
theorem spo_holds : spoC.holds Try.prog (conR spoR) := by
  refine con_of_runG (cs := mp) (S := mpS) (LT := [(1, ⟨[(2, fun b => .int .i64 (.var b))], [], [], true⟩)]) (depth := 1) (fuel := 10) (nv := 200) (av := [.hnd 0]) (T := treeSpoil) mp_holds (by kernel_rfl) (by kernel_rfl) (by kernel_rfl) ?_
  rintro G l e0 ⟨v, n, rfl, hn, h⟩
  rcases h with ⟨rfl, rfl, hG⟩ | ⟨k, f, cells, hm, hG⟩
  · refine ⟨nilLQ G, (Env.ofL [.slice none 0 0]).st (encG G), rfl, rfl, ?_⟩
    refine sem_loop (Env.from_ _ 1200 ((Env.ofL [.int .i64 0]).ans (encG G))) (Env.from_ag _ _ _) rfl ⟨rfl, rfl⟩ (by kernel_rfl) (fun ρ1 ρ2 h => rfl) (fun ρ hag hinv => ?_)
    obtain ⟨hg, hi⟩ := hinv
    have hi : ρ.i 1200 = 0 := hi
    have hg : ρ.g 2199 = encG G := hg
    have x0 : ρ.v 0 = .slice none 0 0 := (hag 0 (by decide)).2.2
    refine sem_step G [.slice none 0 0] (Env.ofL [.int .i64 0]) rfl (by show [oneOf (ρ.v 0), ρ.g 2199] = _; rw [x0, hg]; rfl) ⟨_, 1, 0, [], rfl, .inl ⟨rfl, rfl, rfl⟩, rfl⟩ ?_
    refine sem_split (fun h => ?_) (fun h => ?_)
    · have h : ρ.i 1200 < 0 := of_decide_eq_true h
      omega
    · exact sem_retG rfl rfl trivial (by rw [hG]; exact hg)
  · have hv1 : v.oneCell' = true := by
      obtain ⟨d, rfl, _⟩ := hm.sin cells
      rfl
    refine ⟨spLQ G n k f cells, (Env.ofL [v]).st (encG G), by show [v] = [oneOf v]; rw [oneOf_eq hv1], rfl, ?_⟩
    refine sem_loop (Env.from_ _ 1200 ((Env.ofL [.int .i64 0]).ans (encG G))) (Env.from_ag _ _ _) rfl ⟨0, ?_, rfl, Nat.zero_le _⟩ (by kernel_rfl) (fun ρ1 ρ2 h => ?_) (fun ρ hag hinv => ?_)
    · show encG G = _
      rw [show marks 0 ++ cells.drop 0 = cells from rfl, set_same hm.at_]
    · show ((n : Int) - ρ2.i 1200).toNat = ((n : Int) - ρ1.i 1200).toNat
      rw [(h 1200 (by decide)).1]
    obtain ⟨j, hg, hi, hk⟩ := hinv
    have hi : ρ.i 1200 = j := hi
    have x0 : ρ.v 0 = v := (hag 0 (by decide)).2.2
    obtain ⟨cs, hcs⟩ : ∃ cs, cs = marks j ++ cells.drop j := ⟨_, rfl⟩
    have hml : cs.length = n := by rw [hcs, ← hm.len]; have := hm.len; simp [marks]; omega
    rw [← hcs] at hg
    have hkl := (List.getElem?_eq_some_iff.1 hm.at_).1
    obtain ⟨Gj, hGj⟩ : ∃ g, g = G.set k (f cs) := ⟨_, rfl⟩
    have hat : Gj[k]? = some (f cs) := by rw [hGj, List.getElem?_set_self hkl]
    have hsin : SlIn Gj v k 0 1 n := by rw [hGj]; exact hm.sin cs
    have hca : cellsAt Gj k = some cs := by unfold cellsAt; rw [hat]; exact (hm.op cs).2.1
    have hsl : Sl Gj v 1 n cs := .inr ⟨k, 0, cs, hsin, hca, by omega, by rw [List.drop_zero, List.take_of_length_le (by omega)]⟩
    rw [← hGj] at hg
    have hg : ρ.g 2199 = encG Gj := hg
    refine sem_step Gj [v] (Env.ofL [.int .i64 n]) rfl (by show [oneOf (ρ.v 0), ρ.g 2199] = _; rw [x0, hg, oneOf_eq hv1]; rfl) ⟨v, 1, _, _, rfl, hsl, rfl⟩ ?_
    refine sem_split (fun h => ?_) (fun h => ?_)
    · have h : ρ.i 1200 < (n : Int) := of_decide_eq_true h
      have hjn : j < n := by omega
      refine sem_step Gj [v, .int .i64 j] (Env.ofL [.int .i64 k, .int .i64 j]) rfl (by show [oneOf (ρ.v 0), Value.int .i64 (ρ.i 1200), ρ.g 2199] = _; rw [x0, hg, hi, oneOf_eq hv1]; rfl) ⟨v, .i64, j, k, 0, n, cs, rfl, hsin, hca, by omega, by omega, by omega, Nat.one_pos, rfl, by show (j : Int) = ((0 + (j : Int).toNat * 1 : Nat) : Int); omega⟩ ?_
      have hov : overV cs j [Value.int .u8 (mkI j)] = marks (j + 1) ++ cells.drop (j + 1) := by
        rw [overV_set _ _ _ (by omega), hcs]
        exact marks_succ (by have := hm.len; omega)
      refine sem_step Gj [tokAt k j, .int .u8 (mkI j)] ((Env.ofL []).ans (encG (G.set k (f (marks (j + 1) ++ cells.drop (j + 1)))))) rfl (by show [tokAt k (j + 0), Value.int .u8 (IntKind.u8.wrap (IntKind.i64.wrap (201 + IntKind.i64.wrap (7 * IntKind.i64.wrap (ρ.i 1200 + 7))))), ρ.g 2199] = _; rw [hi, hg]; rfl)
        ⟨k, j, _, f cs, cs, rfl, hat, (hm.op cs).1, (hm.op cs).2.1, rfl, fun c hc => (by
          have : c = .int .u8 (mkI j) := by simpa [Value.cells] using hc
          subst this; rfl), fun cs e => (by cases e), by omega, ?_⟩ ?_
      · show encG _ = _
        rw [(hm.op cs).2.2, show (Value.int .u8 (mkI j)).cells.toList = [Value.int .u8 (mkI j)] from rfl, hov, hGj, List.set_set]
      refine sem_again (Env.from_ _ 1200 ((Env.ofL [.int .i64 ((j : Int) + 1)]).ans (encG (G.set k (f (marks (j + 1) ++ cells.drop (j + 1))))))) (Env.from_ag _ _ _) ?_ ⟨j + 1, rfl, ?_, by omega⟩ ?_
      · show [Value.int .i64 ((j : Int) + 1), encG _] = [Value.int .i64 (IntKind.i64.wrap (ρ.i 1200 + 1)), encG _]
        rw [hi, wrap_in (by omega) (by omega)]
      · show (j : Int) + 1 = _
        simp
      · show ((n : Int) - ((j : Int) + 1)).toNat < ((n : Int) - ρ.i 1200).toNat
        omega
    · have h : ¬ ρ.i 1200 < (n : Int) := of_decide_eq_false h
      have hjn : j = n := by omega
      refine sem_retG rfl rfl trivial ?_
      rw [hG]
      show ρ.g 2199 = _
      rw [hg, hGj, hcs, hjn, List.drop_eq_nil_of_le (by have := hm.len; omega), List.append_nil]
end Go.Proofs.Ytcedgoaanlbldaa
