/- What is proved: a disk in a world: what a call of the disk's does to it and to the rest, out of the contracts on the store. No condition but those each law names. -/
import Derived.Test.YtaigdbnfhehclaaB2
import Derived.Test.YtaigdbnfhehclaaBytes
namespace Go.Proofs.Ytaigdbnfhehclaa
open Go.RowKit
namespace Sx
set_option maxRecDepth 100000

/-- A disk, without its places: what lasts of a sector (none: torn), what is loose. -/
structure Ab where
  last : Int → Option (List Nat)
  loose : Int → Option (List Nat)
  off : Bool
  left : Int
  done : Int
def ints (l : List Nat) : List Int := l.map Int.ofNat
theorem ints_len (l : List Nat) : (ints l).length = l.length := List.length_map ..
theorem nats_inj {l k : List Nat} (h : ints l = ints k) : l = k := (List.map_inj_right fun _ _ e => Int.ofNat.inj e).1 h
theorem ints_bts (l : List Nat) : u8s (ints l) = bts l := by unfold ints bts u8s; rw [List.map_map]; rfl
def z128 : List Nat := List.replicate 128 0
theorem ints_z : ints z128 = zs := by unfold ints z128 zs; rw [List.map_replicate]; rfl
structure AbsA (M : DiskM) (A : Ab) : Prop where
  la : ∀ k, (getA M.la k = none ∧ A.last k = some z128) ∨ (getA M.la k = some none ∧ A.last k = none) ∨ ∃ r l, getA M.la k = some (some (r, ints l)) ∧ A.last k = some l
  lo : ∀ k, getA M.lo k = (A.loose k).map ints
  off : M.off = A.off
  left : M.left = A.left
  done : M.done = A.done
/-- There is a disk there, whose cells lie in F. -/
def DW (w : World) (F : Foot) (dv : Value) (A : Ab) : Prop :=
  ∃ h G f d M, Objs w h F G f ∧ IsDisk G d M ∧ AbsA M A ∧ dv = concE h (tokAt d 0) ∧ ∀ (i : Nat) o, G[i]? = some o → o.shared = false
theorem DW.keep {w w' : World} {F S : Foot} {dv : Value} {A : Ab} (H : DW w F dv A) (hS : Fr S w w') (hd : ∀ b x, F b x → ¬ S b x) : DW w' F dv A := by
  obtain ⟨h, G, f, d, M, H, r⟩ := H
  exact ⟨h, G, f, d, M, H.keep hS hd, r⟩
theorem DW.below {w w' : World} {F : Foot} {dv : Value} {A : Ab} (H : DW w F dv A) (hw : Below w.heap.size w w') : DW w' F dv A := H.keep (Fr.of_below (S := fun _ _ => False) hw) fun _ _ _ h => h
theorem DW.lt {w : World} {F : Foot} {dv : Value} {A : Ab} (H : DW w F dv A) {b x : Nat} (hf : F b x) : b < w.heap.size := by
  obtain ⟨h, G, f, d, M, H, r⟩ := H
  exact H.belowF hf
theorem cell_block {w w' : World} {i : Nat} (e : w'.heap[i]? = w.heap[i]?) (x : Nat) : w'.cell? ⟨i, x, none⟩ = w.cell? ⟨i, x, none⟩ ∧ w'.frozen? ⟨i, x, none⟩ = w.frozen? ⟨i, x, none⟩ := by
  unfold World.cell? World.frozen?
  simp [e]
/-- An object stays where the blocks of its cells stay. -/
theorem HoldsOb.keepB {w w' : World} {h : Nat → OneV} {n : Nat} {v : Value} {f : Foot} {o : Ob} (H : HoldsOb w h n v f o) (hk : ∀ i, (∃ x, f i x) → w'.heap[i]? = w.heap[i]?) : HoldsOb w' h n v f o := by
  cases o with
  | dead => exact H
  | row s len cells =>
    obtain ⟨b, o, cap, h1, h2, h4, h5, h6, h7, h8, h9⟩ := H
    have e := hk b ⟨o, (h8 _ _).2 ⟨rfl, Nat.le_refl _⟩⟩
    refine ⟨b, o, cap, h1, h2, h4, h5, fun j hj => ?_, fun j c hj => (h7 j c hj).keep (cell_block e _).1, h8, ?_⟩
    · rw [(cell_block e _).1, (cell_block e _).2]; exact h6 j hj
    · obtain ⟨⟨⟨c, hc⟩, hs⟩, hz⟩ := h9
      refine ⟨⟨⟨c, ?_⟩, ?_⟩, fun x hx => (cell_block e x).2.trans (hz x hx)⟩
      · unfold World.shape? at *; rw [e]; exact hc
      · unfold Sane at *; rw [e]; exact hs
  | ro s len cells =>
    obtain ⟨b, o, sp, cap, h1, h2, h3, h4, h5, h6⟩ := H
    refine ⟨b, o, sp, cap, h1, h2, h3, h4, fun j c hj => ?_, h6⟩
    have hl := (List.getElem?_eq_some_iff.1 hj).1
    have e := hk b ⟨o + j, (h6 _ _).2 ⟨rfl, by omega, by omega⟩⟩
    exact (h5 j c hj).keep (cell_block e _).1
  | view m s k len => exact H
  | ptr cells =>
    obtain ⟨b, o, h1, h2, h3, h4⟩ := H
    have e := hk b ⟨o, (h4 _ _).2 ⟨rfl, Nat.le_refl _, by omega⟩⟩
    exact ⟨b, o, h1, h2, fun j c hj => ⟨(h3 j c hj).1.keep (cell_block e _).1, by rw [(cell_block e _).2]; exact (h3 j c hj).2⟩, h4⟩
  | map l =>
    obtain ⟨r, es, clock, h1, h2, h3, h4, h5⟩ := H
    have e := hk r ⟨0, (h5 _ _).2 rfl⟩
    exact ⟨r, es, clock, h1, e.trans h2, h3, h4, h5⟩
  | fn id cells =>
    obtain ⟨b, h1, h2, h3, h4⟩ := H
    have e := hk b ⟨0, (h4 _ _).2 ⟨rfl, h2⟩⟩
    exact ⟨b, h1, h2, fun j c hj => ⟨(h3 j c hj).1.keep (cell_block e _).1, by rw [(cell_block e _).2]; exact (h3 j c hj).2⟩, h4⟩
theorem DW.keepB {w w' : World} {F : Foot} {dv : Value} {A : Ab} (H : DW w F dv A) (hk : ∀ i, (∃ x, F i x) → w'.heap[i]? = w.heap[i]?) : DW w' F dv A := by
  obtain ⟨h, G, f, d, M, H, r⟩ := H
  exact ⟨h, G, f, d, M, ⟨fun i o ho => (H.ob i o ho).keepB fun k ⟨x, hx⟩ => hk k ⟨x, (H.foot k x).2 ⟨i, (List.getElem?_eq_some_iff.1 ho).1, hx⟩⟩, H.apart, H.foot⟩, r⟩
/-- What turned from w to w' lies in the blocks of F, or is new. -/
structure Turns (F : Foot) (w w' : World) : Prop where
  os : w'.os = w.os
  tape : w'.tape = w.tape
  output : w'.output = w.output
  size : w.heap.size ≤ w'.heap.size
  block : ∀ k, k < w.heap.size → (∀ x, ¬ F k x) → w'.heap[k]? = w.heap[k]?
theorem Turns.refl (F : Foot) (w : World) : Turns F w w := ⟨rfl, rfl, rfl, Nat.le_refl _, fun _ _ _ => rfl⟩

/-- The objects of the disk. -/
def mine (d : Nat) (M : DiskM) (i : Nat) : Bool := i == d || i == M.m1 || i == M.m2 || M.la.any fun q => match q.2 with
  | some r => r.1 == i
  | none => false
def mask (p : Nat → Bool) (G : List Ob) : List Ob := G.mapIdx fun i o => if p i then o else .dead
theorem mask_len (p : Nat → Bool) (G : List Ob) : (mask p G).length = G.length := by simp [mask]
theorem mask_get (p : Nat → Bool) (G : List Ob) (i : Nat) : (mask p G)[i]? = (G[i]?).map fun o => if p i then o else .dead := by simp [mask]
theorem objs_mask {w : World} {h : Nat → OneV} {F : Foot} {G : List Ob} {f : Nat → Foot} (H : Objs w h F G f) (p : Nat → Bool) :
    Objs w h (fun b x => ∃ i, i < G.length ∧ p i = true ∧ f i b x) (mask p G) (fun i => if p i then f i else fun _ _ => False) := by
  refine ⟨fun i o ho => ?_, fun i j o q ho hq hne hs b x => ?_, fun b x => ?_⟩
  · rw [mask_get, Option.map_eq_some_iff] at ho
    obtain ⟨o0, h0, rfl⟩ := ho
    rw [mask_len]
    cases hp : p i with
    | true => rw [if_pos rfl, if_pos rfl]; exact H.ob i o0 h0
    | false => exact fun _ _ h => h
  · rw [mask_get, Option.map_eq_some_iff] at ho hq
    obtain ⟨o0, h0, rfl⟩ := ho
    obtain ⟨q0, h1, rfl⟩ := hq
    cases hp : p i with
    | false => exact fun h => h.elim
    | true =>
      cases hp' : p j with
      | false => exact fun _ h => h
      | true =>
        rw [hp, hp', if_pos rfl, if_pos rfl] at hs
        simp only [if_true]
        exact H.apart i j o0 q0 h0 h1 hne hs b x
  · rw [mask_len]
    constructor
    · rintro ⟨i, h1, h2, h3⟩
      exact ⟨i, h1, by rw [if_pos h2]; exact h3⟩
    · rintro ⟨i, h1, h3⟩
      cases hp : p i with
      | true => rw [hp] at h3; exact ⟨i, h1, hp, h3⟩
      | false => rw [hp] at h3; exact h3.elim
theorem mine_ob {G : List Ob} {d : Nat} {M : DiskM} (hd : IsDisk G d M) {i : Nat} (h : mine d M i = true) : ∃ o, G[i]? = some o ∧ o.shared = false := by
  unfold mine at h
  simp only [Bool.or_eq_true, beq_iff_eq, List.any_eq_true] at h
  rcases h with ((rfl | rfl) | rfl) | ⟨q, hq, hm⟩
  · exact ⟨_, hd.ob, rfl⟩
  · exact ⟨_, hd.ma, rfl⟩
  · exact ⟨_, hd.mo, rfl⟩
  · obtain ⟨k, r⟩ := q
    cases r with
    | none => simp at hm
    | some r =>
      simp only [beq_iff_eq] at hm
      subst hm
      exact ⟨_, (hd.la k r hq).1, rfl⟩
theorem mine_disk {G : List Ob} {d : Nat} {M : DiskM} (hd : IsDisk G d M) : IsDisk (mask (mine d M) G) d M := by
  have hk : ∀ (i : Nat) o, mine d M i = true → G[i]? = some o → (mask (mine d M) G)[i]? = some o := fun i o hm ho => by rw [mask_get, ho, Option.map_some, if_pos hm]
  have m0 : mine d M d = true := by unfold mine; simp
  have m1 : mine d M M.m1 = true := by unfold mine; simp
  have m2 : mine d M M.m2 = true := by unfold mine; simp
  refine ⟨hk _ _ m0 hd.ob, hk _ _ m1 hd.ma, hk _ _ m2 hd.mo, fun k q hq => ⟨hk _ _ ?_ (hd.la k q hq).1, (hd.la k q hq).2⟩, hd.lo, hd.ne, hd.rng, hd.nd⟩
  unfold mine
  simp only [Bool.or_eq_true, List.any_eq_true]
  exact .inr ⟨_, hq, by simp⟩
theorem dw_of {w : World} {h : Nat → OneV} {F : Foot} {G : List Ob} {f : Nat → Foot} {d : Nat} {M : DiskM} {A : Ab} (H : Objs w h F G f) (hd : IsDisk G d M) (hA : AbsA M A) :
    DW w (fun b x => ∃ i, i < G.length ∧ mine d M i = true ∧ f i b x) (concE h (tokAt d 0)) A := by
  refine ⟨h, mask (mine d M) G, _, d, M, objs_mask H _, mine_disk hd, hA, rfl, fun i o ho => ?_⟩
  rw [mask_get, Option.map_eq_some_iff] at ho
  obtain ⟨o0, h0, rfl⟩ := ho
  cases hp : mine d M i with
  | false => rfl
  | true =>
    obtain ⟨o1, h1, h2⟩ := mine_ob hd hp
    rw [h0] at h1
    cases h1
    exact h2

/-- Ints, of whatever kind: values that no store turns. -/
def Plain (cells : List Value) : Prop := ∀ c ∈ cells, ∃ k n, c = .int k n
theorem plain_cell {cells : List Value} (h : Plain cells) {j : Nat} {c : Value} (hj : cells[j]? = some c) : c.oneCell' = true ∧ ∀ g, concE g c = c := by
  obtain ⟨k, n, rfl⟩ := h c (List.mem_of_getElem? hj)
  exact ⟨rfl, fun _ => rfl⟩
/-- A call of one of the disk's functions, in a world: it may read a slice of ints that lies apart from the disk. The answer is told by the store behind the call. -/
theorem dw_call {fn : FuncId} {res : E} {R : List Ob → List Value → Env → Prop} (hc : (mkCon fn [] res 2).holds Try.prog (conR R)) (hr : (res.noPtr && res.lt stride && decide (fn < primBase)) = true)
    {w : World} {F : Foot} {dv : Value} {A : Ab} (H : DW w F dv A) {ao : Option Addr} {n c : Nat} {cells : List Value} (hp : Plain cells) (hsl : Go.Proofs.Ytaigdbnfhehclaa.Sl w ao n c cells) (hap : ∀ b o j, ao = some ⟨b, o, none⟩ → j < n → ¬ F b (o + j))
    {args : Nat → Value → List Value} {cargs : Array Value} {Post : Ab → (Nat → OneV) → Value → World → Foot → Prop}
    (hargs : ∀ h d v, concE h (tokAt d 0) = dv → concE h v = .slice ao n c → ((args d v).map (concE h)).toArray = cargs) (hinv : ∀ h n d v, Inv h n (tokAt d 0) → Inv h n v → ∀ u ∈ args d v, Inv h n u)
    (hR : ∀ G d M v, IsDisk G d M → AbsA M A → SlD d M G v 1 n cells → ∃ e M' G' A', R G (args d v) e ∧ e.g gv = encG G' ∧ DStep d M G M' G' ∧ AbsA M' A' ∧
      ∀ h' w' F' f', Objs w' h' F' G' f' → (ao = none → ∀ i b x, i < G'.length → f' i b x → F b x ∨ w.heap.size ≤ b) → Post A' h' (res.nam e lay0) w' (fun b x => ∃ i, i < G'.length ∧ mine d M' i = true ∧ f' i b x)) :
    Calls Try.prog fn cargs w fun en w' => ∃ A' h' r F', en = .returned (concE h' r) ∧ Post A' h' r w' F' ∧ DW w' F' dv A' ∧ Turns F w w' ∧ ∀ b x, F' b x → F b x ∨ w.heap.size ≤ b := by
  obtain ⟨h, G, f, d, M, H, hd, hA, rfl, hsh⟩ := H
  have hdl : d < G.length := (List.getElem?_eq_some_iff.1 hd.ob).1
  have hcl := hsl.len
  cases ao with
  | none =>
    have h0 := hsl.nil rfl
    have hle := hsl.le
    obtain rfl : c = 0 := h0
    obtain rfl : n = 0 := by omega
    obtain rfl : cells = [] := List.eq_nil_of_length_eq_zero hcl
    obtain ⟨e, M', G', A', q1, q2, q3, q4, q5⟩ := hR G d M (.slice none 0 0) hd hA (fun G' _ => .inl ⟨rfl, rfl, rfl⟩)
    have ha := hargs h d (.slice none 0 0) rfl rfl
    have k := calls_con hc hr H (hinv h G.length d (.slice none 0 0) (Inv.at_ hdl) (Inv.of_const fun _ => rfl)) q1
    rw [ha] at k
    refine k.mono ?_
    rintro en w' ⟨h', F', f', G2, g1, g2, g3, g4, g5, g6, g7⟩
    obtain rfl := encG_inj (q2.symm.trans g2)
    have hdv : concE h' (tokAt d 0) = concE h (tokAt d 0) := Inv.at_ hdl h' g7
    refine ⟨A', h', _, (fun b x => ∃ i, i < G'.length ∧ mine d M' i = true ∧ f' i b x), g1, q5 h' w' F' f' g4 (fun _ i b x t1 t3 => g5 b x ((g4.foot b x).2 ⟨i, t1, t3⟩)), ?_, ?_, ?_⟩
    · rw [← hdv]; exact dw_of g4 q3.is_ q4
    · exact ⟨g3.os, g3.tape, g3.output, g3.size, g3.block⟩
    · rintro b x ⟨i, h1, _, h3⟩
      exact g5 b x ((g4.foot b x).2 ⟨i, h1, h3⟩)
  | some a =>
    have hspot : 0 < cells.length → a.spot = none := fun h0 => by
      obtain ⟨b, o, e, _⟩ := hsl.at (by omega)
      cases e
      rfl
    have hce : ∀ (j : Nat) x, cells[j]? = some x → w.cell? ⟨a.block, a.off + j, none⟩ = some x := fun j x hj => by
      rcases hsl.cells with rfl | ⟨b, o, e, hc2⟩
      · simp at hj
      · cases e
        exact hc2 j x hj
    have hap' : ∀ j, j < cells.length → ¬ F a.block (a.off + j) := fun j hj => by
      obtain ⟨b, o, e, _⟩ := hsl.at (by omega)
      cases e
      exact hap b o j rfl (by omega)
    have H2 := H.push (⟨.slice (some a) n c, rfl⟩ : OneV) (o' := .ro 1 n cells) (f' := fun i x => i = a.block ∧ a.off ≤ x ∧ x < a.off + cells.length)
      (fun b x hf k hk hf2 => by
        obtain ⟨rfl, h1, h2⟩ := hf
        exact hap' (x - a.off) (by omega) (by rw [show a.off + (x - a.off) = x by omega]; exact (H.foot _ _).2 ⟨k, hk, hf2⟩))
      ⟨a.block, a.off, a.spot, c, by simp, hsl.le, by rw [hcl, Nat.mul_one], hspot, fun j x hj => CellN.push (Inv.of_const (plain_cell hp hj).2) (plain_cell hp hj).1 (by rw [(plain_cell hp hj).2]; exact hce j x hj), fun _ _ => Iff.rfl⟩
    generalize hh2 : (fun k => if k = G.length then (⟨.slice (some a) n c, rfl⟩ : OneV) else h k) = h2 at H2
    have e0 : (h2 G.length).val = .slice (some a) n c := by rw [← hh2]; simp
    have hdh : concE h2 (tokAt d 0) = concE h (tokAt d 0) := Inv.at_ hdl h2 fun k hk => by rw [← hh2]; simp [Nat.ne_of_lt hk]
    have hd2 : IsDisk (G ++ [.ro 1 n cells]) d M := hd.keeps (Keeps.append _ _)
    have hro : (G ++ [Ob.ro 1 n cells])[G.length]? = some (.ro 1 n cells) := by rw [List.getElem?_append_right (Nat.le_refl _), Nat.sub_self]; rfl
    have n0 : G.length ≠ d := by omega
    have n1 : G.length ≠ M.m1 := by have := (List.getElem?_eq_some_iff.1 hd.ma).1; omega
    have n2 : G.length ≠ M.m2 := by have := (List.getElem?_eq_some_iff.1 hd.mo).1; omega
    obtain ⟨e, M', G', A', q1, q2, q3, q4, q5⟩ := hR (G ++ [.ro 1 n cells]) d M (tok G.length) hd2 hA (fun G' hf => by
      have hg := hf.2 _ _ hro n0 n1 n2
      exact .inr ⟨G.length, 0, cells, ⟨_, rfl, .inl ⟨_, .inr hg, rfl, rfl⟩⟩, by unfold cellsAt; rw [hg]; rfl, by omega, by rw [List.drop_zero, Nat.mul_one, ← hcl, List.take_length]⟩)
    have ha := hargs h2 d (tok G.length) hdh (by rw [concE_name, e0])
    have k := calls_con hc hr H2 (hinv h2 (G ++ [Ob.ro 1 n cells]).length d (tok G.length) (Inv.at_ (by simp; omega)) (Inv.name (by simp))) q1
    rw [ha] at k
    refine k.mono ?_
    rintro en w' ⟨h', F', f', G2, g1, g2, g3, g4, g5, g6, g7⟩
    obtain rfl := encG_inj (q2.symm.trans g2)
    have hdv : concE h' (tokAt d 0) = concE h (tokAt d 0) := (Inv.at_ (h := h2) (n := (G ++ [Ob.ro 1 n cells]).length) (by simp; omega) h' g7).trans hdh
    have hro' : G'[G.length]? = some (.ro 1 n cells) := q3.fr.2 _ _ hro n0 n1 n2
    obtain ⟨b0, o0, sp0, c0, r1, r2, r3, r4, r5, r6⟩ := g4.ob _ _ hro'
    rw [g7 G.length (by simp), e0] at r1
    simp only [Value.slice.injEq, Option.some.injEq] at r1
    obtain ⟨r1, _, rfl⟩ := r1
    obtain rfl : b0 = a.block := by rw [r1]
    obtain rfl : o0 = a.off := by rw [r1]
    clear r1
    have hcell : ∀ x, a.off ≤ x → x < a.off + cells.length → w'.cell? ⟨a.block, x, none⟩ = w.cell? ⟨a.block, x, none⟩ ∧ (w.cell? ⟨a.block, x, none⟩).isSome = true := fun x h1 h2 => by
      have hj : cells[x - a.off]? = some (cells[x - a.off]'(by omega)) := List.getElem?_eq_getElem (by omega)
      have c1 := hce _ _ hj
      have c2 := (r5 _ _ hj).cell
      rw [(plain_cell hp hj).2] at c2
      simp only [show a.off + (x - a.off) = x by omega] at c1 c2
      rw [c1, c2]
      exact ⟨rfl, rfl⟩
    refine ⟨A', h', _, (fun b x => ∃ i, i < G'.length ∧ mine d M' i = true ∧ f' i b x), g1, q5 h' w' F' f' g4 (fun e => by cases e), ?_, ?_, ?_⟩
    · rw [← hdv]; exact dw_of g4 q3.is_ q4
    · refine ⟨g3.os, g3.tape, g3.output, g3.size, fun k hk hF => ?_⟩
      by_cases hex : ∃ o, k = a.block ∧ a.off ≤ o ∧ o < a.off + cells.length
      · obtain ⟨o, rfl, ho1, ho2⟩ := hex
        refine block_same g3 hk (fun x => ?_) (fun x hx hs => ?_) (.inr ⟨rfl, ho1, ho2⟩)
        · by_cases hx : a.off ≤ x ∧ x < a.off + cells.length
          · exact (hcell x hx.1 hx.2).1
          · exact g3.cell _ x hk fun hs => hs.elim (hF x) fun h => hx ⟨h.2.1, h.2.2⟩
        · rcases hs with hs | hs
          · exact hF x hs
          · have := (hcell x hs.2.1 hs.2.2).2
            rw [hx] at this
            cases this
      · exact g3.block k hk fun o hs => hs.elim (hF o) fun h => hex ⟨o, h⟩
    · rintro b x ⟨i, h1, hm, h3⟩
      rcases g5 b x ((g4.foot b x).2 ⟨i, h1, h3⟩) with (h4 | h4) | h4
      · exact .inl h4
      · exfalso
        obtain ⟨oi, ho1, ho2⟩ := mine_ob q3.is_ hm
        have hne : i ≠ G.length := fun e => by
          subst e
          rw [hro'] at ho1
          cases ho1
          cases ho2
        exact g4.apart i G.length _ _ ho1 hro' hne (by rw [ho2]; rfl) b x h3 ((r6 b x).2 h4)
      · exact .inr h4
end Sx
end Go.Proofs.Ytaigdbnfhehclaa
