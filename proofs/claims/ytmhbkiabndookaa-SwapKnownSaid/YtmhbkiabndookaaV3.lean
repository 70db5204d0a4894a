/- What is proved: the rules of each state, as a slice that the call made (layer 23). No condition. -/
import Derived.Test.YtmhbkiabndookaaV2
import Derived.Test.YtmhbkiabndookaaLays
import Derived.Test.YtmhbkiabndookaaBytes
import Derived.ArgAppend
namespace Go.Proofs.Ytmhbkiabndookaa
open Go.RowKit

theorem own_rows (w : World) (B e size n k : Nat) (cs : Array Value) (hk : w.heap.size = k) (hB : B ≤ k) (hn : n ≤ maxLen) (hs : cs.size = n * size) : (w.alloc (.cells cs e)).ownsRow B e size (.slice (some ⟨k, 0, none⟩) n n) n cs.toList := by
  subst hk
  exact ⟨by simpa using hs, .inr ⟨w.heap.size, n, cs, rfl, hB, heap_alloc_new w _, Nat.le_refl _, hn, hs, by rw [← hs, ← Array.length_toList, List.take_length]⟩⟩

theorem below1 (w : World) (o : Obj) : Below w.heap.size w (w.alloc o) := (Below.refl _ w).alloc (Nat.le_refl _) o

/-- 'append' to a slice without room, in a region that draws its order. -/
theorem makes_app {P : Program} {t e : TypeId} {size : Nat} (E : Elem P t e size) {w : World} {ρ : Operand → Value} {s x : Operand} {dst : Option Tmp} {ty : TypeId} {pos : String} {af : Array Edge} {gd : Option (Nat × Bool)}
    {B : Nat} {ao : Option Addr} {n m c : Nat} {xs news : List Value} {ad : Addr} (hs : ρ s = .slice ao n n) (hown : w.ownsRow B e size (.slice ao n n) n xs) (hx : ρ x = .slice (some ad) m c) (hl : news.length = m * size)
    (hnews : ∀ (j : Nat) u, news[j]? = some u → w.cell? (ad.add j) = some u) (h1 : ∀ u ∈ news, u.oneCell' = true) (hm : 0 < m) (h63 : n + m ≤ 1099511627776) (hB : B ≤ w.heap.size) :
    Mk.Oper.makesUpon P w (fun x : Option Addr × Nat => .slice x.1 (n + m) x.2) (fun x w' => w'.ownsRow B e size (.slice x.1 (n + m) x.2) (n + m) (xs ++ news)) ((execOp ρ ⟨dst, .call { callee := .builtin .append, args := #[s, x], argTypes := #[t, t] }, ty, pos, af, gd⟩).run P w) := by
  obtain ⟨hu, hpos, i, z, hi, hz, hsz, hby, hzs⟩ := E
  have hbytes : (n + m) * i.bytes ≤ 140737488355328 := by
    calc (n + m) * i.bytes ≤ 1099511627776 * 64 := Nat.mul_le_mul h63 hby
      _ ≤ 140737488355328 := by decide
  have hmx : n + m ≤ maxLen := by simp only [maxLen]; omega
  have key : ∃ v' w', (Builtin.append_ #[t, t] ty #[.slice ao n n, .slice (some ad) m c]).run P w = .ok v' w' ∧ w'.ownsRow B e size v' (n + m) (xs ++ news) ∧ Below w.heap.size w w' := by
    cases ao with
    | none =>
      obtain ⟨g, cap, w', hr, h2, h3, _, _⟩ := run_append_lies (P := P) w t ty B e i z size i.bytes hu hi hz hsz rfl hzs hpos _ n xs hown ad m c news hl hnews h1 hm hmx hbytes hB _ rfl
      exact ⟨_, w', hr, h2, (Below.refl _ w).grown h3 (Nat.le_refl _) (fun k hk => by cases hk)⟩
    | some b =>
      have hb : ∀ (j : Nat) u, xs[j]? = some u → w.cell? (b.add j) = some u := fun j u hj => by
        rcases hown.2 with ⟨hv, _⟩ | ⟨g, cp, cur, hv, _⟩
        · cases hv
        · cases hv
          exact hown.cells (g := g) rfl j u hj
      obtain ⟨v', w', hr, h2, h3⟩ := run_append_arg_grows (P := P) w t ty e i z size i.bytes hu hi hz hsz rfl hzs hpos b n n xs hown.1 hb ad m c news hl hnews (by omega) hmx hbytes
      exact ⟨v', w', hr, own_base h2 hB, (Below.refl _ w).grown h3 (Nat.le_refl _) (fun k hk => by cases hk)⟩
  obtain ⟨v', w', hr, h2, h3⟩ := key
  obtain ⟨ao', cap, rfl⟩ := own_form h2
  have e : (execOp ρ ⟨dst, .call { callee := .builtin .append, args := #[s, x], argTypes := #[t, t] }, ty, pos, af, gd⟩).run P w = .ok (.value (.slice ao' (n + m) cap)) w' := by
    unfold execOp
    simp only [resolve, invoke, builtin, Sem.run_bind, Sem.run_pure, Result.andThen_ok, List.map_toArray, List.map_cons, List.map_nil, hs, hx, hr]
  rw [e]
  exact ⟨(ao', cap), rfl, ⟨⟨w', h3⟩, rfl⟩, h2⟩

theorem elemR : Elem Try.prog 65 69 3 := Elem.mk' Try.underlying65 (by kernel_rfl) (z := .agg #[.nilFunc, .int .i64 0, .int .i64 0]) (bytes := 24) rfl (by decide) (by decide)

/-- A rule: its function, its move, its state. -/
structure Ru where
  fn : Nat
  mv : Int
  st : Int
def Ru.cells (r : Ru) : List Value := [.func (Fn.func r.fn) #[] #[], .int .i64 r.mv, .int .i64 r.st]
def rcells (L : List Ru) : List Value := L.flatMap Ru.cells
def rulesOf (st : Int) : List Ru :=
  if st = 1 then [⟨34, 0, 2⟩, ⟨35, 4, 6⟩, ⟨37, 1, 2⟩] else if st = 2 then [⟨39, 4, 5⟩, ⟨40, 2, 3⟩, ⟨41, 3, 2⟩, ⟨44, 1, 2⟩] else if st = 3 then [⟨45, 4, 4⟩, ⟨46, 2, 3⟩] else []
theorem rcells_at (L : List Ru) : ∀ (i : Nat) r, L[i]? = some r → (rcells L)[i * 3]? = some (.func (Fn.func r.fn) #[] #[]) ∧ (rcells L)[i * 3 + 1]? = some (.int .i64 r.mv) ∧ (rcells L)[i * 3 + 2]? = some (.int .i64 r.st) := by
  induction L with
  | nil => intro i f h; simp at h
  | cons g L ih =>
    intro i f h
    have e : rcells (g :: L) = .func (Fn.func g.fn) #[] #[] :: .int .i64 g.mv :: .int .i64 g.st :: rcells L := rfl
    rw [e]
    cases i with
    | zero =>
      obtain rfl : g = f := by simpa using h
      exact ⟨rfl, rfl, rfl⟩
    | succ i =>
      have := ih i f (by simpa using h)
      rw [show (i + 1) * 3 = i * 3 + 1 + 1 + 1 by omega]
      simpa using this
theorem rcells_snoc (L : List Ru) (r : Ru) : rcells (L ++ [r]) = rcells L ++ r.cells := by simp [rcells]

def RetR (L : List Ru) (w : World) : Ending → World → Prop := fun e w' => ∃ ao, e = .returned (.slice ao L.length L.length) ∧ (∃ g : Ext w, w' = g.val) ∧ w'.ownsRow w.heap.size 69 3 (.slice ao L.length L.length) L.length (rcells L)

theorem rules_any (st : Int) (w : World) : Calls Try.prog 23 #[.int .i64 st] w (RetR (rulesOf st) w) := by
  by_cases h1 : st = 1
  · subst h1
    go_enter Try.func23, Try.ntmps23
    go_wp2
    go_ret
    exact ⟨_, rfl, ⟨⟨_, below1 _ _⟩, rfl⟩, own_rows w _ 69 3 3 _ _ rfl (Nat.le_refl _) (by decide) rfl⟩
  by_cases h2 : st = 2
  · subst h2
    go_enter Try.func23, Try.ntmps23
    go_wp2
    go_ret
    exact ⟨_, rfl, ⟨⟨_, below1 _ _⟩, rfl⟩, own_rows w _ 69 3 4 _ _ rfl (Nat.le_refl _) (by decide) rfl⟩
  by_cases h3 : st = 3
  · subst h3
    go_enter Try.func23, Try.ntmps23
    go_wp2
    go_ret
    exact ⟨_, rfl, ⟨⟨_, below1 _ _⟩, rfl⟩, own_rows w _ 69 3 2 _ _ rfl (Nat.le_refl _) (by decide) rfl⟩
  have e : rulesOf st = [] := by unfold rulesOf; rw [if_neg h1, if_neg h2, if_neg h3]
  have h1' : (st == 1) = false := by simpa using h1
  have h2' : (st == 2) = false := by simpa using h2
  have h3' : (st == 3) = false := by simpa using h3
  rw [e]
  go_enter Try.func23, Try.ntmps23
  go_wp2
  go_ret
  exact ⟨none, rfl, ⟨⟨_, Below.refl _ _⟩, rfl⟩, World.ownsRow_nil _ _ _ _⟩
end Go.Proofs.Ytmhbkiabndookaa
