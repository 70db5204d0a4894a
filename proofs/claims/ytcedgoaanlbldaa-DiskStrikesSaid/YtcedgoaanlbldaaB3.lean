/- What is proved: the contract of the law's place. No condition but those each law names. -/
import Derived.Test.YtcedgoaanlbldaaB2
import Derived.Test.YtcedgoaanlbldaaSzL
namespace Go.Proofs.Ytcedgoaanlbldaa
open Sx
set_option maxRecDepth 100000

def putE (b : Nat) : List E := [.int .i64 (.var b), .hnd (b + 1)]
def tokN : Value → Nat
  | .pointer (some a) => a.block
  | _ => 0
def plV (G : List Ob) (v : Value) : Value := if isNil v then .slice none 0 0 else tok (G.length + 1)
def plG (G : List Ob) (i : Int) (v : Value) (n : Nat) : List Ob := if isNil v then G ++ [.ptr [.int .i64 i, v]] else G ++ [.ptr [.int .i64 i, v]] ++ [.view (tokN v) 1 0 (min n 128)]
def plaR (G : List Ob) (l : List Value) (e : Env) : Prop := ∃ i v bs, l = [.agg #[.int .i64 i, v]] ∧ Body G v bs ∧ e.i 0 = pickI i 20 ∧ e.v 1 = plV G v ∧ e.g gv = encG (plG G i v bs.length)
def plaC : Con := mkCon 9 [] (.tup [.int .i64 (.var 0), .hnd 1]) 2
theorem pl_keeps (G : List Ob) (i : Int) (v : Value) (n : Nat) : Keeps G (plG G i v n) ∧ G.length ≤ (plG G i v n).length := by
  unfold plG
  split
  · exact ⟨Keeps.append _ _, by simp⟩
  · exact ⟨by rw [List.append_assoc]; exact Keeps.append _ _, by simp⟩
def cut128 (bs : List Int) : List Int := bs.take (min bs.length 128)
theorem cut128_len (bs : List Int) : (cut128 bs).length = min bs.length 128 := by unfold cut128; rw [List.length_take]; omega
/-- Where a Put's bytes lie; whatever else turns. -/
theorem pl_sl {G : List Ob} {i : Int} {v : Value} {bs : List Int} (hb : Body G v bs) {G' : List Ob} (hk : ∀ (n : Nat), (∃ s l c, (plG G i v bs.length)[n]? = some (.ro s l c)) ∨ (∃ m s k l, (plG G i v bs.length)[n]? = some (.view m s k l)) → G'[n]? = (plG G i v bs.length)[n]?) :
    Sl G' (plV G v) 1 (cut128 bs).length (u8s (cut128 bs)) := by
  rcases hb with ⟨rfl, rfl⟩ | ⟨k, rfl, h⟩
  · exact .inl ⟨rfl, rfl, rfl⟩
  · have hkl := (List.getElem?_eq_some_iff.1 h).1
    have e1 : plG G i (tok k) bs.length = G ++ [.ptr [.int .i64 i, tok k]] ++ [.view k 1 0 (min bs.length 128)] := rfl
    have h1 : (plG G i (tok k) bs.length)[k]? = some (.ro 1 bs.length (bs.map (Value.int .u8))) := (pl_keeps G i (tok k) bs.length).1 _ _ h
    have h2 : (plG G i (tok k) bs.length)[G.length + 1]? = some (.view k 1 0 (min bs.length 128)) := by
      rw [e1, List.getElem?_append_right (by simp)]
      simp
    have h1' := (hk k (.inl ⟨_, _, _, h1⟩)).trans h1
    have h2' := (hk (G.length + 1) (.inr ⟨_, _, _, _, h2⟩)).trans h2
    refine .inr ⟨k, 0, bs.map (Value.int .u8), ⟨G.length + 1, rfl, .inr ⟨by rw [cut128_len]; exact h2', by omega⟩⟩, by unfold cellsAt; rw [h1']; rfl, by rw [cut128_len, List.length_map]; omega, ?_⟩
    rw [cut128_len, List.drop_zero, Nat.mul_one]
    unfold cut128
    exact List.map_take
def plp : List Con := [pickC, boxC 33, loadC 3 (.int .i64 (.var 0)), loadC 27 (.hnd 0), lenC 27, cutC 27]
def plpS : List ConS := [pickS, conR boxR, conR (loadR (.int .i64 (.var 0))), conR (loadR (.hnd 0)), conR lenR, conR (cutR 1)]
theorem plp_holds : Cons Try.prog plp plpS :=
  ⟨pick_holds, box_holds, load_holds (by kernel_rfl) rfl, load_holds (by kernel_rfl) rfl, len_holds Try.underlying27, cut_holds Try.underlying27 (by kernel_rfl), trivial⟩
def treePlace : Tree :=
 (.call 1 200 [(.agg ([(.int .i64 (.var 0)), (.hnd 1)])), (.var 199)]
 (.call 2 4200 [(.pla (.var 200) (.lit 0) 0), (.var 1199)]
 (.call 0 5200 [(.int .i64 (.var 4200)), (.int .i64 (.lit 20))]
 (.call 3 7200 [(.pla (.var 200) (.lit 0) 1), (.var 1199)]
 (.call 3 9200 [(.pla (.var 200) (.lit 0) 1), (.var 1199)]
 (.call 4 10200 [(.hnd 9200), (.var 1199)]
 (.call 5 12200 [(.hnd 7200), (.int .i64 (.mn (.var 10200) (.lit 128))), (.var 1199)]
 (leafG (.tup ([(.int .i64 (.var 5200)), (.hnd 12200)])) .nil 13199))))))))
theorem pla_holds : plaC.holds Try.prog (conR plaR) := by
  refine con_of_runG (cs := plp) (S := plpS) (LT := []) (depth := 1) (fuel := 10) (nv := 200) (av := [.agg (putE 0)]) (T := treePlace) plp_holds (by kernel_rfl) (by kernel_rfl) (by kernel_rfl) ?_
  rintro G l e0 ⟨i, v, bs, rfl, hb, h0, h1, hG⟩
  have hv1 := hb.one
  have hp : (G ++ [Ob.ptr [.int .i64 i, v]])[G.length]? = some (.ptr [.int .i64 i, v]) := by rw [List.getElem?_append_right (Nat.le_refl _), Nat.sub_self]; rfl
  have hs := hb.sl.append (X := [Ob.ptr [.int .i64 i, v]])
  refine ⟨noLoops, (Env.ofL [.int .i64 i, v]).st (encG G), by show [Value.agg #[.int .i64 i, v]] = [Value.agg #[.int .i64 i, oneOf v]]; rw [oneOf_eq hv1], rfl, ?_⟩
  refine sem_step G [.agg #[.int .i64 i, v]] ((Env.ofL [.int .i64 G.length]).ans (encG (G ++ [.ptr [.int .i64 i, v]]))) rfl (by show [Value.agg #[.int .i64 i, oneOf v], _] = _; rw [oneOf_eq hv1]; rfl) ⟨_, rfl, ?_, fun cs e => (by cases e), Nat.succ_pos 1, rfl, rfl⟩ ?_
  · intro c hc
    simp [Value.cells] at hc
    rcases hc with rfl | rfl
    · rfl
    · exact hv1
  refine sem_step _ [tokAt G.length 0] (Env.ofL [.int .i64 i]) rfl rfl ⟨G.length, 0, _, _, rfl, cells_ptr hp, rfl, rfl⟩ ?_
  refine sem_call pickS (Env.ofL [.int .i64 (pickI i 20)]) rfl ⟨i, 20, rfl, rfl⟩ ?_
  refine sem_step _ [tokAt G.length 1] (Env.ofL [v]) rfl rfl ⟨G.length, 1, _, v, rfl, cells_ptr hp, rfl, oneOf_eq hv1⟩ ?_
  refine sem_step _ [tokAt G.length 1] (Env.ofL [v]) rfl rfl ⟨G.length, 1, _, v, rfl, cells_ptr hp, rfl, oneOf_eq hv1⟩ ?_
  refine sem_step _ [v] (Env.ofL [.int .i64 bs.length]) rfl (by show [oneOf v, _] = _; rw [oneOf_eq hv1]; rfl) ⟨v, 1, _, _, rfl, hs, rfl⟩ ?_
  refine sem_step (G ++ [Ob.ptr [.int .i64 i, v]]) [v, .int .i64 (min bs.length 128 : Nat)] ((Env.ofL [plV G v]).ans (encG (plG G i v bs.length))) rfl ?_ ⟨v, _, rfl, ?_⟩ ?_
  · show [oneOf v, Value.int .i64 (intMin bs.length 128), _] = _
    rw [oneOf_eq hv1, show intMin bs.length 128 = (min bs.length 128 : Nat) by unfold intMin; split <;> omega]
    rfl
  · rcases hb with ⟨rfl, rfl⟩ | ⟨k, rfl, h⟩
    · exact .inl ⟨rfl, rfl, rfl, rfl⟩
    · refine .inr ⟨k, bs.length, _, rfl, by rw [List.getElem?_append_left (List.getElem?_eq_some_iff.1 h).1]; exact h, by omega, by omega, ?_, rfl⟩
      show tok (G.length + 1) = tok (G ++ [Ob.ptr [.int .i64 i, tok k]]).length
      rw [List.length_append]
      rfl
  · exact sem_retG rfl (by show Value.tuple #[.int .i64 (pickI i 20), oneOf (plV G v)] = Value.tuple #[.int .i64 (e0.i 0), oneOf (e0.v 1)]; rw [h0, h1]) trivial (by rw [hG]; rfl)
end Go.Proofs.Ytcedgoaanlbldaa
