/- What is proved: the contract of mangrovekit's Row; ops that a call lays for itself; the law's works answers true, in any world; the puts that DiskKnown writes out. No condition but those each law names. -/
import Derived.Test.YtcedgoaanlbldaaLays
import Derived.Test.YtcedgoaanlbldaaBytes
import Derived.Test.YtcedgoaanlbldaaT5
import Derived.ArgAppend
import Derived.Deep.AppendLies
import Derived.Deep.Upon
import Derived.Test.YtcedgoaanlbldaaB7
import Derived.Test.YtcedgoaanlbldaaF7
import Derived.Laws.MakeOwn
namespace Go.Proofs.Ytcedgoaanlbldaa
open Go.RowKit
set_option maxRecDepth 100000

theorem elemBk : Elem Try.prog 27 5 1 := Elem.mk' Try.underlying27 (by kernel_rfl) (z := .int .u8 0) (bytes := 1) rfl (by decide) (by decide)
theorem elemOk : Elem Try.prog 43 49 4 := Elem.mk' Try.underlying43 (by kernel_rfl) (z := .agg #[.int .i64 0, .int .i64 0, .slice none 0 0, .slice none 0 0]) (bytes := 64) rfl (by decide) (by decide)
theorem below1k (w : World) (o : Obj) : Below w.heap.size w (w.alloc o) := (Below.refl _ w).alloc (Nat.le_refl _) o
/-- 'append' to a slice without room, in a region that draws its order. -/
theorem makes_app {P : Program} {t e : TypeId} {size : Nat} (E : Elem P t e size) {w : World} {ρ : Operand → Value} {s x : Operand} {dst : Option Tmp} {ty : TypeId} {pos : String} {af : Array Edge} {gd : Option (Nat × Bool)}
    {B : Nat} {ao : Option Addr} {n m c : Nat} {xs news : List Value} {ad : Addr} (hs : ρ s = .slice ao n n) (hown : w.ownsRow B e size (.slice ao n n) n xs) (hx : ρ x = .slice (some ad) m c) (hl : news.length = m * size)
    (hnews : ∀ (j : Nat) u, news[j]? = some u → w.cell? (ad.add j) = some u) (h1 : ∀ u ∈ news, u.oneCell' = true) (hm : 0 < m) (h63 : n + m ≤ 1099511627776) (hB : B ≤ w.heap.size) :
    Mk.Oper.makesUpon P w (fun x : Option Addr × Nat => .slice x.1 (n + m) x.2) (fun x w' => w'.ownsRow B e size (.slice x.1 (n + m) x.2) (n + m) (xs ++ news)) ((execOp ρ ⟨dst, .call { callee := .builtin .append, args := #[s, x], argTypes := #[t, t] }, ty, pos, af, gd⟩).run P w) := by
  obtain ⟨hu, hpos, i, z, hi, hz, hsz, hby, hzs⟩ := E
  have hbytes : (n + m) * i.bytes ≤ 140737488355328 := by
    calc (n + m) * i.bytes ≤ 1099511627776 * 64 := Nat.mul_le_mul h63 hby
      _ ≤ 140737488355328 := by decide
  have hmx : n + m ≤ maxLen := by simp only [maxLen]; omega
  have key : ∃ v' w', (Builtin.append_ #[t, t] ty #[.slice ao n n, .slice (some ad) m c]).run P w = .ok v' w' ∧ w'.ownsRow B e size v' (n + m) (xs ++ news) ∧ Below w.heap.size w w' := by
    cases ao with
    | none =>
      obtain ⟨g, cap, w', hr, h2, h3, _, _⟩ := run_append_lies (P := P) w t ty B e i z size i.bytes hu hi hz hsz rfl hzs hpos _ n xs hown ad m c news hl hnews h1 hm hmx hbytes hB _ rfl
      exact ⟨_, w', hr, h2, (Below.refl _ w).grown h3 (Nat.le_refl _) (fun k hk => by cases hk)⟩
    | some b =>
      have hb : ∀ (j : Nat) u, xs[j]? = some u → w.cell? (b.add j) = some u := fun j u hj => by
        rcases hown.2 with ⟨hv, _⟩ | ⟨g, cp, cur, hv, _⟩
        · cases hv
        · cases hv
          exact hown.cells (g := g) rfl j u hj
      obtain ⟨v', w', hr, h2, h3⟩ := run_append_arg_grows (P := P) w t ty e i z size i.bytes hu hi hz hsz rfl hzs hpos b n n xs hown.1 hb ad m c news hl hnews (by omega) hmx hbytes
      exact ⟨v', w', hr, own_base h2 hB, (Below.refl _ w).grown h3 (Nat.le_refl _) (fun k hk => by cases hk)⟩
  obtain ⟨v', w', hr, h2, h3⟩ := key
  obtain ⟨ao', cap, rfl⟩ := own_form h2
  have e : (execOp ρ ⟨dst, .call { callee := .builtin .append, args := #[s, x], argTypes := #[t, t] }, ty, pos, af, gd⟩).run P w = .ok (.value (.slice ao' (n + m) cap)) w' := by
    unfold execOp
    simp only [resolve, invoke, builtin, Sem.run_bind, Sem.run_pure, Result.andThen_ok, List.map_toArray, List.map_cons, List.map_nil, hs, hx, hr]
  rw [e]
  exact ⟨(ao', cap), rfl, ⟨⟨w', h3⟩, rfl⟩, h2⟩

theorem makes_mono {P : Program} {α : Type} {w : World} {mk : α → Value} {ob ob' : α → World → Prop} {r : Result Next} (h : Mk.Oper.makesUpon P w mk ob r) (hi : ∀ x (g : Ext w), ob x g.val → ob' x g.val) : Mk.Oper.makesUpon P w mk ob' r := by
  unfold Mk.Oper.makesUpon at *
  split at h
  · obtain ⟨x, h1, ⟨g, rfl⟩, h2⟩ := h
    exact ⟨x, h1, ⟨g, rfl⟩, hi x g h2⟩
  · refine ⟨h.1, h.2.mono ?_⟩
    rintro e w2 ⟨x, h1, ⟨g, rfl⟩, h2⟩
    exact ⟨x, h1, ⟨g, rfl⟩, hi x g h2⟩
  · exact h.elim
theorem makes_enter {P : Program} {α : Type} {w : World} {mk : α → Value} {ob : α → World → Prop} {r : Result Next} {f : FuncId} {args : Array Value} (h : r = .ok (.enter f args) w)
    (hc : Calls P f args w fun e w2 => ∃ x, e = .returned (mk x) ∧ (∃ g : Ext w, w2 = g.val) ∧ ob x w2) : Mk.Oper.makesUpon P w mk ob r := by
  subst h
  exact ⟨rfl, hc⟩
/-- .. to an empty one of the call's own; it may be that nothing is put. -/
theorem makes_app0 {P : Program} {t e : TypeId} {size : Nat} (E : Elem P t e size) {w : World} {ρ : Operand → Value} {s x : Operand} {dst : Option Tmp} {ty : TypeId} {pos : String} {af : Array Edge} {gd : Option (Nat × Bool)}
    {B g m c : Nat} {news : List Value} {ad : Addr} (hs : ρ s = .slice (some ⟨g, 0, none⟩) 0 0) (hown : w.ownsRow B e size (.slice (some ⟨g, 0, none⟩) 0 0) 0 []) (hx : ρ x = .slice (some ad) m c) (hl : news.length = m * size)
    (hnews : ∀ (j : Nat) u, news[j]? = some u → w.cell? (ad.add j) = some u) (h1 : ∀ u ∈ news, u.oneCell' = true) (h63 : m ≤ 1099511627776) (hB : B ≤ w.heap.size) :
    Mk.Oper.makesUpon P w (fun x : Option Addr × Nat => .slice x.1 m x.2) (fun x w' => w'.ownsRow B e size (.slice x.1 m x.2) m news) ((execOp ρ ⟨dst, .call { callee := .builtin .append, args := #[s, x], argTypes := #[t, t] }, ty, pos, af, gd⟩).run P w) := by
  by_cases h0 : m = 0
  · subst h0
    have hn : news = [] := List.eq_nil_of_length_eq_zero (by simpa using hl)
    subst hn
    obtain ⟨hu, hpos, i, z, hi, hz, hsz, hby, hzs⟩ := E
    have hr := run_append_nothing (P := P) w t t ty e i hu hi (some ⟨g, 0, none⟩) 0 0 (Nat.le_refl _) (.slice (some ad) 0 c) (Src.ofSlice w hu ad 0 c [] (by simp) (fun j u hj => by simp at hj) (fun u hu => by simp at hu))
    have e : (execOp ρ ⟨dst, .call { callee := .builtin .append, args := #[s, x], argTypes := #[t, t] }, ty, pos, af, gd⟩).run P w = .ok (.value (.slice (some ⟨g, 0, none⟩) 0 0)) w := by
      unfold execOp
      simp only [resolve, invoke, builtin, Sem.run_bind, Sem.run_pure, Result.andThen_ok, List.map_toArray, List.map_cons, List.map_nil, hs, hx, hr]
    rw [e]
    exact ⟨(some ⟨g, 0, none⟩, 0), rfl, ⟨⟨w, Below.refl _ _⟩, rfl⟩, hown⟩
  · have := makes_app E (n := 0) (xs := []) (dst := dst) (ty := ty) (pos := pos) (af := af) (gd := gd) hs hown hx hl hnews h1 (by omega) (by omega) hB
    simpa only [Nat.zero_add, List.nil_append] using this
/-- Row's contract: so many bytes in new memory. -/
theorem Row_any (n : Nat) (hn : n < 1099511627776) (w : World) : Calls Try.prog 24 #[.int .i64 (n : Int)] w fun e w' => ∃ ao cap l, e = .returned (.slice ao n cap) ∧ Below w.heap.size w w' ∧ w'.ownsRow w.heap.size 5 1 (.slice ao n cap) n (bts l) := by
  go_enter Try.func24, Try.ntmps24
  go_wp2
  go_loopw [3, 4] (fun v i wr => ∃ (j : Nat) (l : List Nat), j ≤ n ∧ i = .int .i64 j ∧ wr.ownsRow w.heap.size 5 1 v j (bts l) ∧ Below w.heap.size w wr) (fun _ i _ => n - (intOf i).toNat)
  case atStart => exact ⟨0, [], by omega, rfl, World.ownsRow_nil _ _ _ _, Below.refl _ _⟩
  case round =>
    obtain ⟨j, l, hj, rfl, hown, hb⟩ := hrel
    obtain ⟨ao', cap, rfl⟩ := own_form hown
    have hz := hb.size
    by_cases hlt : j < n
    · obtain ⟨m, hm⟩ : ∃ m : Nat, (7 + (j : Int)) % 251 = m := ⟨((7 + (j : Int)) % 251).toNat, by omega⟩
      go_wp2_with (at_builtin; refine wp_app1 elemBk rfl _ _ rfl (B := w.heap.size) rfl hown rfl rfl (by omega) hz ?_)
      intro ao2 cap2 w2 hown2 hb2
      go_wp2
      go_roundw
      case rel => exact ⟨j + 1, l ++ [m], by omega, rfl, (by rw [bts_append]; first | exact hown2 | (rw [hm] at hown2; exact hown2)), hb.trans hb2⟩
      case measure => simp [intOf]; omega
    · go_wp2
      go_ret
      obtain rfl : j = n := by omega
      exact ⟨ao', cap, l, rfl, hb, hown⟩

/-- The op's slices read as they should. -/
structure OpW.Good (x : OpW) (w : World) : Prop where
  sB : Sl w x.ao x.bs.length x.cap (bts x.bs)
  sK : Sl w x.bo x.ks.length x.dap (x.ks.map (Value.int .i64))
  lB : x.bs.length ≤ 140737488355327
  lK : x.ks.length ≤ 140737488355327
  lI : x.i < 9223372036854775808
def OpW.row (x : OpW) : List Value := [.int .i64 x.kd, .int .i64 x.i, x.vB, x.vK]
theorem OpW.row_one (x : OpW) : ∀ u ∈ x.row, u.oneCell' = true := fun u hu => by
  simp only [OpW.row, OpW.vB, OpW.vK, List.mem_cons, List.not_mem_nil, or_false] at hu
  rcases hu with rfl | rfl | rfl | rfl <;> rfl
def rowOps (L : List OpW) : List Value := L.flatMap OpW.row
theorem rowOps_append (L K : List OpW) : rowOps (L ++ K) = rowOps L ++ rowOps K := by simp [rowOps]
theorem rowOps_one (L : List OpW) : ∀ u ∈ rowOps L, u.oneCell' = true := fun u hu => by
  obtain ⟨x, _, h⟩ := List.mem_flatMap.1 hu
  exact x.row_one u h
theorem rowOps_length (L : List OpW) : (rowOps L).length = L.length * 4 := by
  induction L with
  | nil => rfl
  | cons x L ih => unfold rowOps at *; rw [List.flatMap_cons, List.length_append, ih, List.length_cons]; show 4 + _ = _; omega
theorem rowOps_at : ∀ (L : List OpW) (i : Nat) (x : OpW), L[i]? = some x → ∀ k u, x.row[k]? = some u → (rowOps L)[i * 4 + k]? = some u
  | [], i, x, h => by simp at h
  | y :: L, 0, x, h => fun k u hk => by
    simp only [List.getElem?_cons_zero, Option.some.injEq] at h
    subst h
    have hk4 : k < 4 := (List.getElem?_eq_some_iff.1 hk).1
    unfold rowOps
    rw [List.flatMap_cons, Nat.zero_mul, Nat.zero_add, List.getElem?_append_left hk4]
    exact hk
  | y :: L, i + 1, x, h => fun k u hk => by
    rw [List.getElem?_cons_succ] at h
    have := rowOps_at L i x h k u hk
    unfold rowOps at *
    rw [List.flatMap_cons, List.getElem?_append_right (by show 4 ≤ _; omega)]
    have e : (i + 1) * 4 + k - y.row.length = i * 4 + k := by show (i + 1) * 4 + k - 4 = _; omega
    rw [e]
    exact this
theorem own_rowsk (w : World) (B e size n k : Nat) (cs : Array Value) (hk : w.heap.size = k) (hB : B ≤ k) (hn : n ≤ maxLen) (hs : cs.size = n * size) : (w.alloc (.cells cs e)).ownsRow B e size (.slice (some ⟨k, 0, none⟩) n n) n cs.toList := by
  subst hk
  exact ⟨by simpa using hs, .inr ⟨w.heap.size, n, cs, rfl, hB, heap_alloc_new w _, Nat.le_refl _, hn, hs, by rw [← hs, ← Array.length_toList, List.take_length]⟩⟩
theorem OpW.Good.keep {x : OpW} {w w' : World} {B : Nat} (h : x.Good w) (hB : w.heap.size ≤ B) (hw : Below B w w') : x.Good w' := ⟨h.sB.keep hB hw, h.sK.keep hB hw, h.lB, h.lK, h.lI⟩
theorem OpW.Good.ext {x : OpW} {w : World} (h : x.Good w) (g : Ext w) : x.Good g.val := h.keep (Nat.le_refl _) g.below
/-- A row of ops that the call owns is a list of ops. -/
theorem opsW_own {w : World} {B n : Nat} {v : Value} {L : List OpW} (h : w.ownsRow B 49 4 v n (rowOps L)) (hn : L.length = n) (hm : n ≤ 9223372036854775807) (hg : ∀ x ∈ L, x.Good w) : OpsW w v L := by
  subst hn
  rcases h.2 with ⟨hv, h0⟩ | ⟨g, c, cur, hv, hb, hgc, hnc, hmc, hs, ht⟩
  · exact .inl ⟨hv, List.eq_nil_of_length_eq_zero h0⟩
  · refine .inr ⟨⟨g, 0, none⟩, c, hv, hnc, hm, fun i x hx => ⟨rfl, ?_⟩⟩
    subst hv
    have hc : ∀ k u, x.row[k]? = some u → w.cell? ((⟨g, 0, none⟩ : Addr).add (i * 4 + k)) = some u := fun k u hk => h.cells (g := g) rfl _ _ (rowOps_at L i x hx k u hk)
    have e : ∀ k, ((⟨g, 0, none⟩ : Addr).add (i * 4)).add k = (⟨g, 0, none⟩ : Addr).add (i * 4 + k) := fun k => by
      rw [add_plain_addr, add_plain_addr, add_plain_addr, Nat.add_assoc]
    have hx2 := hg x (List.mem_of_getElem? hx)
    refine ⟨?_, ?_, ?_, ?_, hx2.sB, hx2.sK, hx2.lB, hx2.lK, hx2.lI⟩
    · have := hc 0 _ rfl; rwa [Nat.add_zero] at this
    · rw [e]; exact hc 1 _ rfl
    · rw [e]; exact hc 2 _ rfl
    · rw [e]; exact hc 3 _ rfl
/-- Their rows are not one: their elements are of different types. -/
theorem sep_types {w : World} {B B' e e' s s' n m : Nat} {u v : Value} {xs ys : List Value} (hu : w.ownsRow B e s u n xs) (hv : w.ownsRow B' e' s' v m ys) (he : e ≠ e') : ∀ k, u.ownBlock = some k → v.ownBlock ≠ some k := fun k hk e2 => by
  rcases hu.2 with ⟨h, _⟩ | ⟨g, c, cur, h, _, h1, _⟩
  · subst h; cases hk
  · subst h
    rcases hv.2 with ⟨h', _⟩ | ⟨g', c', cur', h', _, h1', _⟩
    · subst h'; cases e2
    · subst h'
      have a : g = k := by simpa [Value.ownBlock] using hk
      have b : g' = k := by simpa [Value.ownBlock] using e2
      subst a
      subst b
      rw [h1] at h1'
      cases h1'
      exact he rfl
theorem own_apartk {w w' : World} {B e e' s s' n m B' : Nat} {u v : Value} {xs ys : List Value} (h : w.ownsRow B e s u n xs) (hgr : w.grownBy w' v.ownBlock) (hv : w.ownsRow B' e' s' v m ys) (he : e ≠ e') : w'.ownsRow B e s u n xs := by
  refine h.kept hgr ?_
  cases e0 : u.ownBlock with
  | none => exact .inl rfl
  | some k => exact .inr fun e2 => sep_types h hv he k e0 e2.symm
/-- The op's slices are the call's own. -/
structure OpW.Mine (x : OpW) (B : Nat) (w : World) : Prop where
  oB : w.ownsRow B 5 1 x.vB x.bs.length (bts x.bs)
  oK : w.ownsRow B 3 1 x.vK x.ks.length (x.ks.map (Value.int .i64))
  lB : x.bs.length ≤ 140737488355327
  lK : x.ks.length ≤ 140737488355327
  lI : x.i < 9223372036854775808
theorem OpW.Mine.good {x : OpW} {B : Nat} {w : World} (h : x.Mine B w) : x.Good w := ⟨Sl.own h.oB, Sl.own h.oK, h.lB, h.lK, h.lI⟩
theorem OpW.Mine.ext {x : OpW} {B : Nat} {w : World} (h : x.Mine B w) (g : Ext w) : x.Mine B g.val := ⟨own_ext h.oB g, own_ext h.oK g, h.lB, h.lK, h.lI⟩
theorem OpW.Mine.apart {x : OpW} {B n B' : Nat} {w w' : World} {v : Value} {ys : List Value} (h : x.Mine B w) (hgr : w.grownBy w' v.ownBlock) (hv : w.ownsRow B' 49 4 v n ys) : x.Mine B w' :=
  ⟨own_apartk h.oB hgr hv (by decide), own_apartk h.oK hgr hv (by decide), h.lB, h.lK, h.lI⟩
end Go.Proofs.Ytcedgoaanlbldaa

namespace Go.Proofs.Ytcedgoaanlbldaa
open Sx hiding Sl
set_option maxRecDepth 100000
theorem works_sem : treeSem wopS noLoops (KL []) ((Env.ofL []).st (encG [])) treeWorks := by
  refine sem_step ([] : List Ob) [] ((Env.ofL [.int .i64 (wD [])]).ans (encG (newG []))) rfl rfl ⟨rfl, rfl, rfl⟩ ?_
  refine sem_step (newG []) [.int .u8 7] _ rfl rfl (lit_bs _ _) ?_
  refine sem_step (w2 []) [tokAt (wD []) 0, .int .i64 3, tok (newG []).length] ((Env.ofL [.int .i64 0]).ans (encG (w3 []))) rfl rfl ⟨_, _, _, _, [7], rfl, wi2 [], lit_sl _ _, rfl, rfl⟩ ?_
  refine sem_step (w3 []) [tokAt (wD []) 0] ((Env.ofL [.int .i64 0]).ans (encG (w4 []))) rfl rfl ⟨_, _, rfl, wi3 [], rfl, rfl⟩ ?_
  refine sem_step (w4 []) [.int .u8 8] _ rfl rfl (lit_bs _ _) ?_
  refine sem_step (w5 []) [tokAt (wD []) 0, .int .i64 3, tok (w4 []).length] ((Env.ofL [.int .i64 0]).ans (encG (w6 []))) rfl rfl ⟨_, _, _, _, [8], rfl, wi5 [], lit_sl _ _, rfl, rfl⟩ ?_
  refine sem_step (w6 []) [.int .u8 9] _ rfl rfl (lit_bs _ _) ?_
  refine sem_step (w7 []) [tokAt (wD []) 0, .int .i64 4, tok (w6 []).length] ((Env.ofL [.int .i64 0]).ans (encG (w8 []))) rfl rfl ⟨_, _, _, _, [9], rfl, wi7 [], lit_sl _ _, rfl, rfl⟩ ?_
  refine sem_step (w8 []) [.int .u8 8] _ rfl rfl (lit_bs _ _) ?_
  refine sem_step (w9 []) [tokAt (wD []) 0, .int .i64 3, tok (w8 []).length] ((Env.ofL [.bool true]).ans (encG (w10 []))) rfl rfl ⟨_, _, _, _, [8], rfl, wi9 [], lit_sl _ _, by decide, ?_, rfl⟩ ?_
  · show true = rdsB (wM4 []) 3 [8]
    rfl
  refine sem_step (w10 []) [.int .i64 0, .int .i64 2] _ rfl rfl (lit2_bs _ _ _) ?_
  refine sem_step (w11 []) [tokAt (wD []) 0, tok (w10 []).length] ((Env.ofL []).ans (encG (w12 []))) rfl rfl ⟨_, _, _, [0, 2], rfl, wi11 [], wk_keep [], rfl⟩ ?_
  refine sem_step (w12 []) [tokAt (wD []) 0, .int .i64 4] ((Env.ofL [rdV (w12 []) (wM5 []) 4, .int .i64 24]).ans (encG (w13 []))) rfl rfl ⟨_, _, _, rfl, wi12 [], rfl, rfl, rfl⟩ ?_
  refine sem_split (fun _ => ?_) (fun h => by cases h)
  refine sem_split (fun _ => ?_) (fun h => by cases h)
  refine sem_split (fun _ => ?_) (fun h => by cases h)
  refine sem_step (w13 []) [.int .u8 7] _ rfl rfl (lit_bs _ _) ?_
  refine sem_step (w14 []) [tokAt (wD []) 0, .int .i64 3, tok (w13 []).length] ((Env.ofL [.bool true]).ans (encG (w15 []))) rfl rfl ⟨_, _, _, _, [7], rfl, wi14 [], lit_sl _ _, by decide, ?_, rfl⟩ ?_
  · show true = rdsB (wM5 []) 3 [7]
    rfl
  refine sem_split (fun _ => ?_) (fun h => by cases h)
  refine sem_split (fun _ => ?_) (fun h => by cases h)
  refine sem_step (w15 []) [tokAt (wD []) 0, .int .i64 512, .slice none 0 0] ((Env.ofL [.int .i64 1]).ans (encG (w16 []))) rfl rfl ⟨_, _, _, _, [], rfl, wi15 [], .inl ⟨rfl, rfl, rfl⟩, rfl, rfl⟩ ?_
  refine sem_split (fun _ => ?_) (fun h => by cases h)
  refine sem_step (w16 []) [tokAt (wD []) 0] ((Env.ofL [.int .i64 4]).ans (encG (w16 []))) rfl rfl ⟨_, _, rfl, wi16 [], rfl, rfl⟩ ?_
  exact sem_retL rfl rfl rfl (fun n o ho => by simp at ho)
theorem works_any (w : World) : Calls Try.prog 8 #[] w (Ret (.bool true) w) := by
  have H := rows_objs (w := w) (R := []) (fun r hr => by simp at hr)
  exact law_of_run (P := Try.prog) (cs := wop) (S := wopS) (LT := []) (depth := 1) (fuel := 20) (nv := 200) (f := 8) (av := []) (T := treeWorks) wop_holds (by kernel_rfl) (by kernel_rfl) (by kernel_rfl) (vs := []) H (ro_all [])
    (fun u hu => by simp at hu) ⟨_, (Env.ofL []).st (encG []), rfl, rfl, works_sem⟩
end Go.Proofs.Ytcedgoaanlbldaa

namespace Go.Proofs.Ytcedgoaanlbldaa
open Go.RowKit
set_option maxRecDepth 100000

structure PuW.Good (x : PuW) (w : World) : Prop where
  s : Sl w x.ao x.bs.length x.cap (bts x.bs)
  b : SmallB x.bs
  l : x.bs.length ≤ 9223372036854775807
def PuW.row (x : PuW) : List Value := [.int .i64 x.k, x.val]
def rowPuts (L : List PuW) : List Value := L.flatMap PuW.row
theorem rowPuts_at : ∀ (L : List PuW) (i : Nat) (x : PuW), L[i]? = some x → ∀ k u, x.row[k]? = some u → (rowPuts L)[i * 2 + k]? = some u
  | [], i, x, h => by simp at h
  | y :: L, 0, x, h => fun k u hk => by
    simp only [List.getElem?_cons_zero, Option.some.injEq] at h
    subst h
    have hk4 : k < 2 := (List.getElem?_eq_some_iff.1 hk).1
    unfold rowPuts
    rw [List.flatMap_cons, Nat.zero_mul, Nat.zero_add, List.getElem?_append_left hk4]
    exact hk
  | y :: L, i + 1, x, h => fun k u hk => by
    rw [List.getElem?_cons_succ] at h
    have := rowPuts_at L i x h k u hk
    unfold rowPuts at *
    rw [List.flatMap_cons, List.getElem?_append_right (by show 2 ≤ _; omega)]
    have e : (i + 1) * 2 + k - y.row.length = i * 2 + k := by show (i + 1) * 2 + k - 2 = _; omega
    rw [e]
    exact this
theorem putsW_own {w : World} {B n : Nat} {v : Value} {L : List PuW} (h : w.ownsRow B 33 2 v n (rowPuts L)) (hn : L.length = n) (hm : n ≤ 9223372036854775807) (hg : ∀ x ∈ L, x.Good w) : PutsW w v L := by
  subst hn
  rcases h.2 with ⟨hv, h0⟩ | ⟨g, c, cur, hv, hb, hgc, hnc, hmc, hs, ht⟩
  · exact .inl ⟨hv, List.eq_nil_of_length_eq_zero h0⟩
  · refine .inr ⟨⟨g, 0, none⟩, c, hv, hnc, hm, fun i x hx => ⟨rfl, ?_⟩⟩
    subst hv
    have hc : ∀ k u, x.row[k]? = some u → w.cell? ((⟨g, 0, none⟩ : Addr).add (i * 2 + k)) = some u := fun k u hk => h.cells (g := g) rfl _ _ (rowPuts_at L i x hx k u hk)
    have e : ∀ k, ((⟨g, 0, none⟩ : Addr).add (i * 2)).add k = (⟨g, 0, none⟩ : Addr).add (i * 2 + k) := fun k => by
      rw [add_plain_addr, add_plain_addr, add_plain_addr, Nat.add_assoc]
    have hx2 := hg x (List.mem_of_getElem? hx)
    refine ⟨?_, ?_, hx2.s, hx2.b, hx2.l⟩
    · have := hc 0 _ rfl; rwa [Nat.add_zero] at this
    · rw [e]; exact hc 1 _ rfl
theorem small1 {x : Nat} (h : x < 256) : SmallB [x] := fun y hy => by rw [List.mem_singleton] at hy; subst hy; exact h
theorem fates_lit (w : World) : Calls Try.prog 3 #[.slice (some ⟨w.heap.size + 1 + 1, 0, none⟩) 2 2, .slice (some ⟨w.heap.size + 1 + 1 + 1 + 1 + 1, 0, none⟩) 3 3, .slice (some ⟨w.heap.size + 1 + 1 + 1 + 1 + 1 + 1, 0, none⟩) 3 3]
    (((((((w.alloc (.cells #[.int .u8 1] 5)).alloc (.cells #[.int .u8 2] 5)).alloc (.cells #[.int .i64 1, .slice (some ⟨w.heap.size, 0, none⟩) 1 1, .int .i64 2, .slice (some ⟨w.heap.size + 1, 0, none⟩) 1 1] 33)).alloc (.cells #[.int .u8 9] 5)).alloc
      (.cells #[.int .u8 4] 5)).alloc (.cells #[.int .i64 1, .slice none 0 0, .int .i64 2, .slice (some ⟨w.heap.size + 1 + 1 + 1, 0, none⟩) 1 1, .int .i64 3, .slice (some ⟨w.heap.size + 1 + 1 + 1 + 1, 0, none⟩) 1 1] 33)).alloc (.cells #[.int .i64 (-1), .int .i64 (-2), .int .i64 3] 3))
    fun e w' => e = .returned (.bool true) ∧ Below w.heap.size w w' := by
  have k0 := own_rowsk w w.heap.size 5 1 1 _ #[.int .u8 1] rfl (Nat.le_refl _) (by decide) rfl
  generalize hw1 : w.alloc (.cells #[.int .u8 1] 5) = w1 at *
  have s1 : w1.heap.size = w.heap.size + 1 := by rw [← hw1]; simp
  have k1 := own_rowsk w1 w.heap.size 5 1 1 _ #[.int .u8 2] s1 (by omega) (by decide) rfl
  have k0 := k0.alloc (.cells #[.int .u8 2] 5)
  generalize hw2 : w1.alloc (.cells #[.int .u8 2] 5) = w2 at *
  have s2 : w2.heap.size = w.heap.size + 1 + 1 := by rw [← hw2]; simp [s1]
  generalize hc2 : (#[.int .i64 1, .slice (some ⟨w.heap.size, 0, none⟩) 1 1, .int .i64 2, .slice (some ⟨w.heap.size + 1, 0, none⟩) 1 1] : Array Value) = c2 at *
  have k2 := own_rowsk w2 w.heap.size 33 2 2 _ c2 s2 (by omega) (by decide) (by rw [← hc2]; rfl)
  have k0 := k0.alloc (.cells c2 33)
  have k1 := k1.alloc (.cells c2 33)
  generalize hw3 : w2.alloc (.cells c2 33) = w3 at *
  have s3 : w3.heap.size = w.heap.size + 1 + 1 + 1 := by rw [← hw3]; simp [s2]
  have k3 := own_rowsk w3 w.heap.size 5 1 1 _ #[.int .u8 9] s3 (by omega) (by decide) rfl
  have k0 := k0.alloc (.cells #[.int .u8 9] 5)
  have k1 := k1.alloc (.cells #[.int .u8 9] 5)
  have k2 := k2.alloc (.cells #[.int .u8 9] 5)
  generalize hw4 : w3.alloc (.cells #[.int .u8 9] 5) = w4 at *
  have s4 : w4.heap.size = w.heap.size + 1 + 1 + 1 + 1 := by rw [← hw4]; simp [s3]
  have k4 := own_rowsk w4 w.heap.size 5 1 1 _ #[.int .u8 4] s4 (by omega) (by decide) rfl
  have k0 := k0.alloc (.cells #[.int .u8 4] 5)
  have k1 := k1.alloc (.cells #[.int .u8 4] 5)
  have k2 := k2.alloc (.cells #[.int .u8 4] 5)
  have k3 := k3.alloc (.cells #[.int .u8 4] 5)
  generalize hw5 : w4.alloc (.cells #[.int .u8 4] 5) = w5 at *
  have s5 : w5.heap.size = w.heap.size + 1 + 1 + 1 + 1 + 1 := by rw [← hw5]; simp [s4]
  generalize hc5 : (#[.int .i64 1, .slice none 0 0, .int .i64 2, .slice (some ⟨w.heap.size + 1 + 1 + 1, 0, none⟩) 1 1, .int .i64 3, .slice (some ⟨w.heap.size + 1 + 1 + 1 + 1, 0, none⟩) 1 1] : Array Value) = c5 at *
  have k5 := own_rowsk w5 w.heap.size 33 2 3 _ c5 s5 (by omega) (by decide) (by rw [← hc5]; rfl)
  have k0 := k0.alloc (.cells c5 33)
  have k1 := k1.alloc (.cells c5 33)
  have k2 := k2.alloc (.cells c5 33)
  have k3 := k3.alloc (.cells c5 33)
  have k4 := k4.alloc (.cells c5 33)
  generalize hw6 : w5.alloc (.cells c5 33) = w6 at *
  have s6 : w6.heap.size = w.heap.size + 1 + 1 + 1 + 1 + 1 + 1 := by rw [← hw6]; simp [s5]
  generalize hc6 : (#[.int .i64 (-1), .int .i64 (-2), .int .i64 3] : Array Value) = c6 at *
  have k6 := own_rowsk w6 w.heap.size 3 1 3 _ c6 s6 (by omega) (by decide) (by rw [← hc6]; rfl)
  have k0 := k0.alloc (.cells c6 3)
  have k1 := k1.alloc (.cells c6 3)
  have k2 := k2.alloc (.cells c6 3)
  have k3 := k3.alloc (.cells c6 3)
  have k4 := k4.alloc (.cells c6 3)
  have k5 := k5.alloc (.cells c6 3)
  have hB : Below w.heap.size w (w6.alloc (.cells c6 3)) := by
    rw [← hw6, ← hw5, ← hw4, ← hw3, ← hw2, ← hw1]
    exact (((((((Below.refl _ w).alloc (Nat.le_refl _) _).alloc (by simp only [World.size_alloc]; omega) _).alloc (by simp only [World.size_alloc]; omega) _).alloc (by simp only [World.size_alloc]; omega) _).alloc (by simp only [World.size_alloc]; omega) _).alloc (by simp only [World.size_alloc]; omega) _).alloc (by simp only [World.size_alloc]; omega) _
  generalize w6.alloc (.cells c6 3) = X at *
  have p1 : PutsW X (.slice (some ⟨w.heap.size + 1 + 1, 0, none⟩) 2 2) [⟨1, [1], some ⟨w.heap.size, 0, none⟩, 1⟩, ⟨2, [2], some ⟨w.heap.size + 1, 0, none⟩, 1⟩] := by
    refine putsW_own (by rw [← hc2] at k2; exact k2) rfl (show 2 ≤ _ by decide) ?_
    intro x hx
    simp only [List.mem_cons, List.not_mem_nil, or_false] at hx
    rcases hx with rfl | rfl
    · exact ⟨Sl.own k0, small1 (by decide), by show 1 ≤ _; decide⟩
    · exact ⟨Sl.own k1, small1 (by decide), by show 1 ≤ _; decide⟩
  have p2 : PutsW X (.slice (some ⟨w.heap.size + 1 + 1 + 1 + 1 + 1, 0, none⟩) 3 3) [⟨1, [], none, 0⟩, ⟨2, [9], some ⟨w.heap.size + 1 + 1 + 1, 0, none⟩, 1⟩, ⟨3, [4], some ⟨w.heap.size + 1 + 1 + 1 + 1, 0, none⟩, 1⟩] := by
    refine putsW_own (by rw [← hc5] at k5; exact k5) rfl (show 3 ≤ _ by decide) ?_
    intro x hx
    simp only [List.mem_cons, List.not_mem_nil, or_false] at hx
    rcases hx with rfl | rfl | rfl
    · exact ⟨Sl.nothing X, fun y hy => by simp at hy, Nat.zero_le _⟩
    · exact ⟨Sl.own k3, small1 (by decide), by show 1 ≤ _; decide⟩
    · exact ⟨Sl.own k4, small1 (by decide), by show 1 ≤ _; decide⟩
  have p3 : Sl X (some ⟨w.heap.size + 1 + 1 + 1 + 1 + 1 + 1, 0, none⟩) 3 3 ([-1, -2, 3].map (Value.int .i64)) := by
    have := Sl.own k6
    rw [← hc6] at this
    exact this
  refine (Fates_any p1 p2 p3).mono ?_
  rintro _ _ ⟨rfl, g, rfl⟩
  exact ⟨rfl, hB.trans (g.below.mono hB.size)⟩
/-- A list of puts of nothing. -/
theorem strikes_lit (w : World) (cs : Array Value) (h : cs.toList = rowPuts (List.replicate 4 ⟨0, [], none, 0⟩)) : Calls Try.prog 5 #[.int .i64 2, .slice (some ⟨w.heap.size, 0, none⟩) 4 4] (w.alloc (.cells cs 33)) fun e w' => e = .returned (.bool true) ∧ Below w.heap.size w w' := by
  have hs : cs.size = 4 * 2 := by rw [← Array.length_toList, h]; rfl
  have k := own_rowsk w w.heap.size 33 2 4 _ cs rfl (Nat.le_refl _) (by decide) hs
  rw [h] at k
  have p := putsW_own k rfl (by decide) (fun x hx => by
    obtain ⟨_, rfl⟩ := List.mem_replicate.1 hx
    exact ⟨Sl.nothing _, fun y hy => by simp at hy, Nat.zero_le _⟩)
  refine (Strikes_any p 2).mono ?_
  rintro _ _ ⟨rfl, g, rfl⟩
  exact ⟨rfl, (below1k w _).trans (g.below.mono (below1k w _).size)⟩
def puts0 : Array Value := (rowPuts (List.replicate 4 ⟨0, [], none, 0⟩)).toArray
theorem make4 (w : World) : (Instr.makeSlice 22 (.int .i64 4) (.int .i64 4)).run Try.prog w = .ok (.slice (some ⟨w.heap.size, 0, none⟩) 4 4) (w.alloc (.cells puts0 33)) := by
  obtain ⟨i, hi, h1, h2, h3⟩ := info_parts (show (Try.prog.info? 33).map (fun i => (i.zero, i.size, i.bytes)) = some (some (.agg #[.int .i64 0, .slice none 0 0]), 2, 32) by kernel_rfl)
  have := run_make (P := Try.prog) w 22 33 i (.agg #[.int .i64 0, .slice none 0 0]) Try.underlying22 hi h1 .i64 .i64 4 4 (by decide) (Int.le_refl _) (by rw [h3]; decide) (by decide)
  rw [h2] at this
  have hz : madeCells (Value.agg #[.int .i64 0, .slice none 0 0]).cells ((4 : Int).toNat * 2) = puts0 := by kernel_rfl
  rw [hz] at this
  exact this
end Go.Proofs.Ytcedgoaanlbldaa
