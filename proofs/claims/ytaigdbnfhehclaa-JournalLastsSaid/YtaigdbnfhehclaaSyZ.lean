/- What is proved: the contract of append on objects; no program in sight; contracts of comparisons and conversions, in names of objects; no program in sight; contracts of the operations on maps, in names of objects; no program in sight; contracts of a map's making, asking and writing, in names of objects; no program in sight; contracts of conversions of bytes, and of parts of slices, in names of objects; no program in sight. No condition but those each law names. -/
import Derived.Test.YtaigdbnfhehclaaSyV
import Derived.Test.YtaigdbnfhehclaaEq
import Derived.Lib.SlBytesConst
import Derived.Laws.IdiomStrings
import Derived.MapKept
import Derived.WideKeyRuns
import Derived.Laws.BytesString
namespace Go.Proofs.Ytaigdbnfhehclaa
namespace Sx
open Go.RowKit

/-- A slice that is appended to. -/
def Dst (G : List Ob) (v : Value) (s len : Nat) (xs : List Value) : Prop := (v = .slice none 0 0 ∧ len = 0 ∧ xs = []) ∨ ∃ d, v = tok d ∧ G[d]? = some (.row s len xs)
/-- A slice is given up. -/
def killV (G : List Ob) (v : Value) : List Ob := match v with
  | .pointer (some a) => G.set a.block .dead
  | _ => G
theorem killV_tok (G : List Ob) (d : Nat) : killV G (tok d) = G.set d .dead := rfl
theorem killV_nil (G : List Ob) : killV G (.slice none 0 0) = G := rfl
theorem killV_length (G : List Ob) (v : Value) : (killV G v).length = G.length := by unfold killV; split <;> simp
/-- A slice is given up, its cells are written, and new blocks come. -/
theorem Objs.kill {w w' : World} {h : Nat → OneV} {F : Foot} {G : List Ob} {f : Nat → Foot} (H : Objs w h F G f) {v : Value} {s len : Nat} {xs : List Value} (hv : Dst G v s len xs) {S : Foot} (hS : Fr S w w') (hsub : ∀ b x, b < w.heap.size → S b x → ∃ d, v = tok d ∧ f d b x) :
    ∃ F1 f1, Objs w' h F1 (killV G v) f1 ∧ (∀ b x, F1 b x → F b x ∨ w.heap.size ≤ b) ∧ ∀ k, k < G.length → ∀ b x, f1 k b x → f k b x ∧ v ≠ tok k := by
  rcases hv with ⟨rfl, _, _⟩ | ⟨d, rfl, hd⟩
  · refine ⟨F, f, H.keep hS fun b x hF hs => ?_, fun b x hF => .inl hF, fun k _ b x hf => ⟨hf, fun e => by cases e⟩⟩
    obtain ⟨d, e, _⟩ := hsub b x (H.belowF hF) hs
    cases e
  · obtain ⟨g1, g2⟩ := H.set hS (i := d) (o' := .dead) (f' := fun _ _ => False) hd rfl (fun b x hb hs => by
      obtain ⟨d', e, hf⟩ := hsub b x hb hs
      have : d' = d := by simpa [tok] using e.symm
      rw [← this]; exact hf) (fun _ _ h => h.elim) (fun _ _ h => h)
    refine ⟨_, _, g1, g2, fun k hk b x hf => ?_⟩
    by_cases e : k = d
    · simp only [if_pos e] at hf
    · simp only [if_neg e] at hf
      exact ⟨hf, fun e' => e (by simpa [tok] using e'.symm)⟩
section
variable {P : Program}
def appC (t : TypeId) : Con := ⟨primBase + (32 * t + 18), [], fun b => (E.hnd 0).shift b, 2, 0, 2⟩
def appR (s by_ : Nat) (G : List Ob) (l : List Value) (e : Env) : Prop := ∃ dv sv len n xs ys, l = [dv, sv] ∧ Sl G sv s n ys ∧ len + n ≤ 9223372036854775807 ∧ (len + n) * by_ ≤ 140737488355328 ∧
  ((n = 0 ∧ Sl G dv s len xs ∧ e.v 0 = dv ∧ e.g gv = encG G) ∨ (0 < n ∧ Dst G dv s len xs ∧ e.v 0 = tok G.length ∧ ∃ fz, e.g gv = encG (killV G dv ++ [mkRow fz s (len + n) (xs ++ ys)])))
theorem Dst.one {G : List Ob} {v : Value} {s len : Nat} {xs : List Value} (h : Dst G v s len xs) : v.oneCell' = true := by
  rcases h with ⟨rfl, _, _⟩ | ⟨d, rfl, _⟩ <;> rfl
/-- What append does, whatever is appended. -/
theorem app_core {t tx el : TypeId} {i : TypeInfo} {z : Value} (hs0 : 0 < i.size) (hzs : z.cells.size = i.size) (hz1 : ∀ c ∈ z.cells.toList, c.oneCell' = true)
    {o : Oper} {a : Act} {w : World} {h : Nat → OneV} {F : Foot} {G : List Ob} {f : Nat → Foot} {e : Env} (H : Objs w h F G f) {dv x : Value} {len n : Nat} {xs ys : List Value} (h63 : len + n ≤ 9223372036854775807)
    (hyl : ys.length = n * i.size) (hycell : ∀ (j : Nat) cy, ys[j]? = some cy → cy.oneCell' = true ∧ Inv h G.length cy) (hdv : Inv h G.length dv)
    (hexec : ∀ r w', (Builtin.append_ #[t, tx] o.type #[concE h dv, x]).run P w = .ok r w' → (execOp a.eval o).run P w = .ok (.value r) w')
    (hno : ∀ ba dc, n = 0 → len ≤ dc → (Builtin.append_ #[t, tx] o.type #[.slice ba len dc, x]).run P w = .ok (.slice ba len dc) w)
    (hroomR : ∀ b o' dc, len + n ≤ dc → (∀ j, j < (ys.map (concE h)).length → (w.cell? ⟨b, o' + len * i.size + j, none⟩).isSome = true) → (∀ j, j < (ys.map (concE h)).length → w.frozen? ⟨b, o' + len * i.size + j, none⟩ = false) →
      (Builtin.append_ #[t, tx] o.type #[.slice (some ⟨b, o', none⟩) len dc, x]).run P w = .ok (.slice (some ⟨b, o', none⟩) (len + n) dc) (w.setCells b (o' + len * i.size) (ys.map (concE h))))
    (hgrowR : ∀ ba dc, n ≠ 0 → (Builtin.firstCells i.size len (.slice ba len dc)).run P w.drew = .ok (xs.map (concE h)).toArray w.drew → dc < len + n →
      (Builtin.append_ #[t, tx] o.type #[.slice ba len dc, x]).run P w = .ok (.slice (some ⟨w.heap.size, 0, none⟩) (len + n) (grownCap w (len + n) dc el)) (w.drew.alloc (.cells ((xs.map (concE h) ++ ys.map (concE h)).toArray ++ Builtin.zeroCells z.cells (grownCap w (len + n) dc el - (len + n))) el)))
    (hres : (n = 0 ∧ Sl G dv i.size len xs ∧ e.v 0 = dv ∧ e.g gv = encG G) ∨ (0 < n ∧ Dst G dv i.size len xs ∧ e.v 0 = tok G.length ∧ ∃ fz, e.g gv = encG (killV G dv ++ [mkRow fz i.size (len + n) (xs ++ ys)]))) :
    ∃ x w' h' F' f' G', (execOp a.eval o).run P w = .ok x w' ∧ e.g gv = encG G' ∧ ((∃ v, x = .value (concE h' v) ∧ (E.hnd 0).nam e lay0 = v ∧ Inv h' G'.length v) ∨ (x = .skip ∧ E.hnd 0 = .lit undef)) ∧
      Fr F w w' ∧ Objs w' h' F' G' f' ∧ (∀ i x, F' i x → F i x ∨ w.heap.size ≤ i) ∧ G.length ≤ G'.length ∧ ∀ n, n < G.length → h' n = h n := by
  by_cases h0 : n = 0
  · -- nothing comes
    subst h0
    rcases hres with ⟨_, hd, he, hG⟩ | ⟨hn, _⟩
    rotate_left
    · omega
    obtain ⟨ba, dc, e1, e2, _⟩ := hd.at_ H
    have hrun := hno ba dc rfl e2
    rw [← e1] at hrun
    exact ⟨_, w, h, F, f, G, hexec _ _ hrun, hG, .inl ⟨dv, rfl, by simp only [E.nam, he]; exact oneOf_eq hd.one, hdv⟩, Fr.refl _ _, H, fun _ _ h => .inl h, Nat.le_refl _, fun _ _ => rfl⟩
  · rcases hres with ⟨hn, _⟩ | ⟨hn, hd, he, fz, hG⟩
    · exact absurd hn h0
    have hkl : (killV G dv).length = G.length := killV_length G dv
    have hres' : (E.hnd 0).nam e lay0 = tok G.length := by simp only [E.nam, he]; exact oneOf_eq rfl
    -- the old cells
    obtain ⟨ba, dc, e1, e2, hold, hdc⟩ : ∃ ba dc, concE h dv = .slice ba len dc ∧ len ≤ dc ∧ (∀ w' : World, (∀ p, w'.cell? p = w.cell? p) → (Builtin.firstCells i.size len (.slice ba len dc)).run P w' = .ok (xs.map (concE h)).toArray w') ∧
        (ba = none ∧ dc = 0 ∧ len = 0 ∧ xs = [] ∧ (∀ d, dv ≠ tok d) ∨ ∃ d b o', dv = tok d ∧ G[d]? = some (.row i.size len xs) ∧ ba = some ⟨b, o', none⟩ ∧ dc ≤ maxLen ∧
          (∀ j, j < dc * i.size → (∃ u, w.cell? ⟨b, o' + j, none⟩ = some u ∧ u.oneCell' = true) ∧ w.frozen? ⟨b, o' + j, none⟩ = false) ∧ (∀ (j : Nat) c, xs[j]? = some c → CellN w h G.length b (o' + j) c) ∧ xs.length = len * i.size ∧ (∀ y x, f d y x ↔ y = b ∧ o' ≤ x) ∧ Tail w b (o' + dc * i.size)) := by
      rcases hd with ⟨rfl, rfl, rfl⟩ | ⟨d, rfl, hd⟩
      · exact ⟨none, 0, rfl, Nat.le_refl _, fun w' _ => by simp [Builtin.firstCells], .inl ⟨rfl, rfl, rfl, rfl, fun d e => by cases e⟩⟩
      · obtain ⟨b, o', cap, h1, h2, h4, h5, h6, h7, h8, h9⟩ := H.ob d _ hd
        refine ⟨_, cap, by rw [concE_name, h1], h2, fun w' hw' => ?_, .inr ⟨d, b, o', rfl, hd, rfl, h4, h6, h7, h5, h8, h9⟩⟩
        exact run_firstCells_some (P := P) w' i.size len _ len cap _ (by simpa using h5) (fun j u hj => by
          rw [List.getElem?_map] at hj
          cases hq : xs[j]? with
          | none => simp [hq] at hj
          | some c =>
            simp only [hq, Option.map_some, Option.some.injEq] at hj
            subst hj
            rw [addr_add, hw']
            exact (h7 j c hq).cell)
    have hxl : xs.length = len * i.size := by
      rcases hdc with ⟨_, _, rfl, rfl, _⟩ | ⟨d, b, o', _, _, _, _, _, _, hx, _⟩
      · simp
      · exact hx
    have hxcell : ∀ (j : Nat) c, xs[j]? = some c → c.oneCell' = true ∧ Inv h G.length c := fun j c hj => by
      rcases hdc with ⟨_, _, rfl, rfl, _⟩ | ⟨d, b, o', _, _, _, _, _, hx, _, _⟩
      · simp at hj
      · exact ⟨(hx j c hj).one, (hx j c hj).inv⟩
    have hall : ∀ (j : Nat) c, (xs ++ ys)[j]? = some c → c.oneCell' = true ∧ Inv h G.length c := fun j c hj => by
      rw [List.getElem?_append] at hj
      split at hj
      · exact hxcell j c hj
      · exact hycell _ c hj
    have hlen : (xs ++ ys).length = (len + n) * i.size := by rw [List.length_append, hxl, hyl, Nat.add_mul]
    by_cases hroom : len + n ≤ dc
    · -- there is room
      rcases hdc with ⟨_, rfl, _⟩ | ⟨d, b, o', hdt, hdG, rfl, hm, h6, h7, _, h8, h9⟩
      · omega
      have hle2 : (len + n) * i.size ≤ dc * i.size := Nat.mul_le_mul_right _ hroom
      have hspare : ∀ j, j < (ys.map (concE h)).length → (w.cell? ⟨b, o' + len * i.size + j, none⟩).isSome = true ∧ w.frozen? ⟨b, o' + len * i.size + j, none⟩ = false ∧ f d b (o' + len * i.size + j) := fun j hj => by
        rw [List.length_map, hyl] at hj
        rw [Nat.add_mul] at hle2
        have := h6 (len * i.size + j) (by omega)
        rw [← Nat.add_assoc] at this
        exact ⟨by obtain ⟨⟨u, hu', _⟩, _⟩ := this; rw [hu']; rfl, this.2, (h8 _ _).2 ⟨rfl, by omega⟩⟩
      have hrun := hroomR b o' dc hroom (fun j hj => (hspare j hj).1) (fun j hj => (hspare j hj).2.1)
      rw [← e1] at hrun
      have hfr := Fr.setCells w b (o' + len * i.size) (ys.map (concE h))
      obtain ⟨F1, f1, k1, k2, k3⟩ := H.kill (w' := w.setCells b (o' + len * i.size) (ys.map (concE h))) (.inr ⟨d, hdt, hdG⟩) hfr (fun b1 x1 _ hx => by
        obtain ⟨rfl, hx1, hx2⟩ := hx
        have := (hspare (x1 - (o' + len * i.size)) (by omega)).2.2
        rw [show o' + len * i.size + (x1 - (o' + len * i.size)) = x1 by omega] at this
        exact ⟨d, hdt, this⟩)
      have hdl := (List.getElem?_eq_some_iff.1 hdG).1
      have hcell : ∀ (j : Nat) c, (xs ++ ys)[j]? = some c → (w.setCells b (o' + len * i.size) (ys.map (concE h))).cell? ⟨b, o' + j, none⟩ = some (concE h c) := fun j c hj => by
        rw [List.getElem?_append] at hj
        split at hj
        · rename_i hjl
          rw [World.cell?_setCells_out _ _ _ _ _ (fun _ _ => .inl (by show o' + j < o' + len * i.size; omega))]
          exact (h7 j c hj).cell
        · rename_i hjl
          have hjy := (List.getElem?_eq_some_iff.1 hj).1
          have := World.cell?_setCells_in b (ys.map (concE h)) (o' + len * i.size) w (fun k hk => (hspare k hk).1) (j - xs.length) (by simpa using hjy)
          rw [show o' + len * i.size + (j - xs.length) = o' + j by omega] at this
          rw [this, List.getElem_map]
          rw [List.getElem?_eq_getElem hjy] at hj
          cases hj
          rfl
      have hcn : ∀ (j : Nat) c, (xs ++ ys)[j]? = some c → CellN (w.setCells b (o' + len * i.size) (ys.map (concE h))) (hPush h G.length (slV b o' (len + n) dc)) (G.length + 1) b (o' + j) c := fun j c hj =>
        CellN.push (hall j c hj).2 (hall j c hj).1 (hcell j c hj)
      have hpush := k1.push (slV b o' (len + n) dc) (o' := mkRow fz i.size (len + n) (xs ++ ys)) (f' := fun y x => y = b ∧ o' ≤ x ∧ (fz = true → x < o' + (len + n) * i.size)) (fun y x hx k hk hf => by
        obtain ⟨hf1, hf2⟩ := k3 k (by omega) y x hf
        have hfd : f d y x := (h8 _ _).2 ⟨hx.1, hx.2.1⟩
        have hne : d ≠ k := fun e => hf2 (by rw [← e]; exact hdt)
        exact H.apart d k _ _ hdG (List.getElem?_eq_getElem (by omega)) hne rfl y x hfd hf1) (by
        rw [hkl]
        cases fz with
        | true => exact ⟨b, o', none, dc, rfl, hroom, hlen, fun _ => rfl, hcn, fun y x => by rw [hlen]; exact ⟨fun ⟨a, b, c⟩ => ⟨a, b, c rfl⟩, fun ⟨a, b, c⟩ => ⟨a, b, fun _ => c⟩⟩⟩
        | false =>
          refine ⟨b, o', dc, rfl, hroom, hm, hlen, fun j hj => ?_, hcn, fun y x => ⟨fun ⟨a, b, _⟩ => ⟨a, b⟩, fun ⟨a, b⟩ => ⟨a, b, fun h => by cases h⟩⟩, h9.keep hfr⟩
          rw [World.frozen?_setCells]
          refine ⟨?_, (h6 j hj).2⟩
          by_cases hjl : j < (xs ++ ys).length
          · have hc1 := hcell j _ (List.getElem?_eq_getElem hjl)
            exact ⟨_, hc1, concE_one (hall j _ (List.getElem?_eq_getElem hjl)).1⟩
          · rw [World.cell?_setCells_out _ _ _ _ _ (fun _ _ => .inr (by show o' + len * i.size + _ ≤ o' + j; rw [List.length_map, hyl]; rw [hlen, Nat.add_mul] at hjl; omega))]
            exact (h6 j hj).1)
      rw [hkl] at hpush
      refine ⟨_, _, hPush h G.length (slV b o' (len + n) dc), _, _, _, hexec _ _ hrun, hG, .inl ⟨tok G.length, ?_, hres', Inv.name (by rw [List.length_append, hkl]; simp)⟩, hfr.mono (fun b1 x1 _ hx => ?_), hpush, fun y x hx => ?_, by rw [List.length_append, hkl]; omega, fun k hk => hPush_old hk⟩
      · rw [concE_name, hPush_new]; rfl
      · obtain ⟨rfl, hx1, hx2⟩ := hx
        have := (hspare (x1 - (o' + len * i.size)) (by omega)).2.2
        rw [show o' + len * i.size + (x1 - (o' + len * i.size)) = x1 by omega] at this
        exact (H.foot _ _).2 ⟨d, hdl, this⟩
      · rcases hx with hx | hx
        · exact k2 y x hx
        · refine .inl ((H.foot _ _).2 ⟨d, hdl, (h8 _ _).2 ⟨hx.1, hx.2.1⟩⟩)
    · -- there is none
      have hold' := hold w.drew fun p => rfl
      have hrun := hgrowR ba dc h0 hold' (by omega)
      rw [← e1] at hrun
      have hge := grownCap_ge w (len + n) dc el
      have hcm := grownCap_le_maxLen w (len + n) dc el (by unfold maxLen; omega)
      have hrs : ((xs.map (concE h) ++ ys.map (concE h)).toArray ++ Builtin.zeroCells z.cells (grownCap w (len + n) dc el - (len + n))).size = grownCap w (len + n) dc el * i.size := by
        rw [Array.size_append, List.size_toArray, ← List.map_append, List.length_map, hlen, size_zeroCells, hzs, ← Nat.add_mul]
        congr 1
        omega
      have hkill := H.kill (v := dv) (w' := w.drew.alloc (.cells ((xs.map (concE h) ++ ys.map (concE h)).toArray ++ Builtin.zeroCells z.cells (grownCap w (len + n) dc el - (len + n))) el)) (S := fun _ _ => False) hd ((Fr.drew w).trans (Fr.alloc _ w.drew _) (fun _ _ _ h => h) (fun _ _ _ h => h)) (fun _ _ _ h => h.elim)
      obtain ⟨F1, f1, k1, k2, k3⟩ := hkill
      have hh := holds_row_new (w := w.drew) (h := h) (n := G.length) (s := i.size) (len := len + n) (cap := grownCap w (len + n) dc el) (cells := xs ++ ys) (t := el) fz hlen hrs hge hcm (fun j c hj => by
        refine ⟨?_, hall j c hj⟩
        have hjl := (List.getElem?_eq_some_iff.1 hj).1
        rw [Array.getElem?_append_left (by simpa using hjl), List.getElem?_toArray, ← List.map_append, List.getElem?_map, hj]
        rfl) (fun u hu' => by
        rw [Array.mem_append] at hu'
        rcases hu' with hu' | hu'
        · rw [List.mem_toArray, ← List.map_append] at hu'
          obtain ⟨c, hc', rfl⟩ := List.mem_map.1 hu'
          obtain ⟨j, hj⟩ := List.getElem?_of_mem hc'
          exact concE_one (hall j c hj).1
        · unfold Builtin.zeroCells at hu'
          obtain ⟨j, hj, rfl⟩ := Array.mem_map.1 hu'
          have hlt : j % z.cells.size < z.cells.size := Nat.mod_lt _ (by omega)
          rw [getElem!_pos z.cells _ hlt]
          exact hz1 _ (by rw [Array.mem_toList_iff]; exact Array.getElem_mem hlt))
      have hpush := k1.push (slV w.heap.size 0 (len + n) (grownCap w (len + n) dc el)) (o' := mkRow fz i.size (len + n) (xs ++ ys)) (f' := fun y x => y = w.heap.size ∧ (fz = true → x < (len + n) * i.size)) (fun y x hx k hk hf => by
        obtain ⟨hf1, hf2⟩ := k3 k (by omega) y x hf
        have := H.below (by omega) hf1
        omega) (by rw [hkl]; exact hh)
      rw [hkl] at hpush
      refine ⟨_, _, hPush h G.length (slV w.heap.size 0 (len + n) (grownCap w (len + n) dc el)), _, _, _, hexec _ _ hrun, hG, .inl ⟨tok G.length, ?_, hres', Inv.name (by rw [List.length_append, hkl]; simp)⟩, (Fr.drew w).trans (Fr.alloc F w.drew _) (fun _ _ _ h => h) (fun _ _ _ h => h), hpush, fun y x hx => ?_, by rw [List.length_append, hkl]; omega, fun k hk => hPush_old hk⟩
      · rw [concE_name, hPush_new]; rfl
      · rcases hx with hx | hx
        · exact k2 y x hx
        · exact .inr (by omega)
theorem app_holds {t el : TypeId} {i : TypeInfo} {z : Value} {s : Nat} (hu : P.underlying t = some (.slice el)) (hi : P.info? el = some i) (hs : i.size = s) (hs0 : 0 < s) (hz : i.zero = some z) (hzs : z.cells.size = s) (hz1 : ∀ c ∈ z.cells.toList, c.oneCell' = true) :
    (appC t).holds P (conR (appR s i.bytes)) := by
  refine turn_holds rfl (Nat.le_add_right _ _) (fun G l e _ hR => ?_) ?_
  · obtain ⟨dv, sv, len, n, xs, ys, rfl, _, _, _, h⟩ := hR
    rcases h with ⟨_, _, _, h⟩ | ⟨_, hd, _, fz, h⟩
    · exact ⟨G, h, by unfold extG; rw [if_neg (by decide), if_pos rfl]; exact ⟨Nat.le_refl _, fun _ _ h _ => h⟩⟩
    · refine ⟨_, h, ?_⟩
      unfold extG
      rw [if_neg (by decide), if_pos rfl]
      refine ⟨by rw [List.length_append, killV_length]; omega, fun m o ho hf => ?_⟩
      have hml := (List.getElem?_eq_some_iff.1 ho).1
      rw [List.getElem?_append_left (by rw [killV_length]; exact hml)]
      rcases hd with ⟨rfl, _, _⟩ | ⟨d, rfl, hd⟩
      · exact ho
      · rw [killV_tok, List.getElem?_set_ne]
        · exact ho
        · rintro rfl
          rw [hd] at ho
          cases ho
          cases hf
  · rintro o hkey a w h F G f l e hargs H ⟨dv, sv, len, n, xs, ys, rfl, hsl, h63, hby, hres⟩
    obtain ⟨c, hc, hcal, hty⟩ := key_append hkey
    have ha := hargs h fun _ _ => rfl
    have hinv := inv_args hargs
    rw [hc] at ha
    simp only [Op.operands, Call.operands, hcal, Array.empty_append, List.map_cons, List.map_nil] at ha
    have hargsA : c.args.map a.eval = #[concE h dv, concE h sv] := by
      rw [← Array.toList_inj]; simpa using ha
    have hexec : ∀ r w', (Builtin.append_ #[t, t] o.type #[concE h dv, concE h sv]).run P w = .ok r w' → (execOp a.eval o).run P w = .ok (.value r) w' := fun r w' hr => by
      simp only [hc, execOp, resolve, hcal, hargsA, Sem.run_bind, Sem.run_pure, Result.andThen_ok, invoke, builtin, hty, hr]
    obtain ⟨sa, scap, hsv, hsle, hscells, hsinv⟩ := hsl.at_ H
    have hyl := hsl.length
    subst hs
    -- what is appended
    have hsrc : Src P i.size t (concE h sv) n (ys.map (concE h)) w := by
      rw [hsv]
      by_cases h0 : 0 < n
      · have hyp : 0 < ys.length := by rw [hyl]; exact Nat.mul_pos h0 hs0
        obtain ⟨b2, o2, rfl, hcc⟩ := hscells hyp
        refine Src.ofSlice w hu _ n scap _ (by simpa using hyl) (fun j u hj => ?_) (fun u hu' => ?_)
        · rw [List.getElem?_map] at hj
          cases hq : ys[j]? with
          | none => simp [hq] at hj
          | some cy =>
            simp only [hq, Option.map_some, Option.some.injEq] at hj
            subst hj
            rw [addr_add]
            exact (hcc j cy hq).cell
        · obtain ⟨cy, hcy, rfl⟩ := List.mem_map.1 hu'
          obtain ⟨j, hj⟩ := List.getElem?_of_mem hcy
          exact concE_one (hcc j cy hj).one
      · obtain rfl : n = 0 := by omega
        have : ys = [] := List.length_eq_zero_iff.1 (by rw [hyl]; simp)
        subst this
        refine ⟨.inl ⟨el, hu⟩, fun _ => rfl, ?_, ?_, by simp, fun u hu' => by simp at hu'⟩
        · cases sa <;> simp [Builtin.firstCells, loadCells]
          exact run_loadCells_list (P := P) (w := w) _ [] (fun j v hv => by simp at hv)
        · cases sa <;> simp [Builtin.firstCells, loadCells]
          exact run_loadCells_list (P := P) (w := w.drew) _ [] (fun j v hv => by simp at hv)
    have hycell : ∀ (j : Nat) cy, ys[j]? = some cy → cy.oneCell' = true ∧ Inv h G.length cy := fun j cy hj => by
      have hyp : 0 < ys.length := by have := (List.getElem?_eq_some_iff.1 hj).1; omega
      obtain ⟨b2, o2, _, hcc⟩ := hscells hyp
      exact ⟨(hcc j cy hj).one, (hcc j cy hj).inv⟩
    have hdv : Inv h G.length dv := hinv dv (by simp)
    exact app_core hs0 hzs hz1 H h63 hyl hycell hdv hexec
      (fun ba dc h0 e2 => by
        have hys : ys.map (concE h) = [] := by simpa [h0] using hsrc.newsLen
        rw [h0, hys] at hsrc
        exact run_append_nothing (P := P) w t t o.type el i hu hi ba len dc e2 (concE h sv) hsrc)
      (fun b o' dc hroom hc hf => run_append_room_src (P := P) w t t o.type el i hu hi b o' len dc (concE h sv) n _ hsrc hroom hc hf)
      (fun ba dc _ hold hlt => run_append_grow_src (P := P) w t t o.type el i z hu hi hz ba len dc _ hold (concE h sv) n _ hsrc hlt (by omega) (growslice_fits (by omega) hby)) hres
end
end Sx
end Go.Proofs.Ytaigdbnfhehclaa

namespace Go.Proofs.Ytaigdbnfhehclaa
namespace Sx
open Go.RowKit

section
variable {P : Program}
theorem binNo_lt {o : BinOp} {k : Nat} (h : binNo o = some k) : k < 10 := by
  cases o <;> simp [binNo] at h <;> omega
theorem key_eql {op : Op} {t : TypeId} (h : primKey op = some (primBase + (32 * (32 * t) + 12))) : ∃ x y yt, op = .binOp .eql t x y yt := by
  unfold primKey at h
  repeat' split at h
  all_goals (try (exact absurd h.symm (Option.some_ne_none _)))
  all_goals (rw [Option.some.injEq] at h)
  all_goals (try (exfalso; omega))
  rename_i bo t' x y yt oo k hk
  have hk0 := binNo_lt hk
  have h1 : @Eq Nat t' t := by omega
  have h2 : k = 0 := by omega
  subst h1 h2
  cases bo <;> first | (simp [binNo] at hk; done) | exact ⟨_, _, _, rfl⟩
theorem key_neq {op : Op} {t : TypeId} (h : primKey op = some (primBase + (32 * (32 * t + 1) + 12))) : ∃ x y yt, op = .binOp .neq t x y yt := by
  unfold primKey at h
  repeat' split at h
  all_goals (try (exact absurd h.symm (Option.some_ne_none _)))
  all_goals (rw [Option.some.injEq] at h)
  all_goals (try (exfalso; omega))
  rename_i bo t' x y yt oo k hk
  have hk0 := binNo_lt hk
  have h1 : @Eq Nat t' t := by omega
  have h2 : k = 1 := by omega
  subst h1 h2
  cases bo <;> first | (simp [binNo] at hk; done) | exact ⟨_, _, _, rfl⟩
def eqC (t : TypeId) : Con := ⟨primBase + (32 * (32 * t) + 12), [], fun b => (E.bool (.var 0)).shift b, 1, 1, 0⟩
def neC (t : TypeId) : Con := ⟨primBase + (32 * (32 * t + 1) + 12), [], fun b => (E.bool (.var 0)).shift b, 1, 1, 0⟩
/-- How two values compare: r of a store and the values; b the answer. -/
def CmpR (R : List Ob → Value → Value → Bool → Prop) (neg : Bool) (G : List Ob) (l : List Value) (e : Env) : Prop := ∃ x y b, l = [x, y] ∧ R G x y b ∧ e.b 0 = (b != neg)
theorem eq_holds {t : TypeId} {R : List Ob → Value → Value → Bool → Prop} (hloc : ∀ G X x y b, (∀ n, tok n ∈ [x, y] → n < G.length) → (∀ n k, tokAt n k ∈ [x, y] → n < G.length) → (R G x y b ↔ R (G ++ X) x y b))
    (hrun : ∀ (w : World) (h : Nat → OneV) (F : Foot) (G : List Ob) (f : Nat → Foot) (x y : Value) (b : Bool) (ox oy : Operand), Objs w h F G f → R G x y b →
      (∀ o, (eqGuard o t ox oy (concE h x) (concE h y)).run P w = .ok () w) ∧ (binOp .eql t (concE h x) (concE h y)).run P w = .ok (.bool b) w ∧ (binOp .neq t (concE h x) (concE h y)).run P w = .ok (.bool !b) w) :
    (eqC t).holds P (conR (CmpR R false)) ∧ (neC t).holds P (conR (CmpR R true)) := by
  have hl : ∀ neg G G' l e, extG 1 G G' → NoDang (encG G) l → (CmpR R neg G l e ↔ CmpR R neg G' l e) := fun neg G G' l e hx hd => by
    obtain ⟨X, rfl, h1, h2⟩ := loc1 hx hd
    constructor
    · rintro ⟨x, y, b, rfl, g1, g2⟩
      exact ⟨x, y, b, rfl, (hloc G X x y b h1 h2).1 g1, g2⟩
    · rintro ⟨x, y, b, rfl, g1, g2⟩
      exact ⟨x, y, b, rfl, (hloc G X x y b h1 h2).2 g1, g2⟩
  constructor
  · refine read_holds rfl (Nat.le_add_right _ _) (fun G G' l e _ hx hd => hl _ G G' l e hx hd) ?_
    rintro o hkey a w h F G f l e hargs H ⟨x, y, b, rfl, hR, he⟩
    obtain ⟨ox, oy, yt, hop⟩ := key_eql hkey
    have ha := hargs h fun _ _ => rfl
    rw [hop] at ha
    simp only [Op.operands, List.map_cons, List.map_nil, List.cons.injEq, and_true] at ha
    obtain ⟨g1, g2, g3⟩ := hrun w h F G f x y b ox oy H hR
    refine ⟨.bool b, ?_, Inv.of_const fun _ => rfl, by simp only [E.nam, C.den, he]; cases b <;> rfl⟩
    simp only [hop, execOp, ha.1, ha.2, Sem.run_bind, g1, g2, Result.andThen_ok, Sem.run_pure, concE_bool]
  · refine read_holds rfl (Nat.le_add_right _ _) (fun G G' l e _ hx hd => hl _ G G' l e hx hd) ?_
    rintro o hkey a w h F G f l e hargs H ⟨x, y, b, rfl, hR, he⟩
    obtain ⟨ox, oy, yt, hop⟩ := key_neq hkey
    have ha := hargs h fun _ _ => rfl
    rw [hop] at ha
    simp only [Op.operands, List.map_cons, List.map_nil, List.cons.injEq, and_true] at ha
    obtain ⟨g1, g2, g3⟩ := hrun w h F G f x y b ox oy H hR
    refine ⟨.bool !b, ?_, Inv.of_const fun _ => rfl, by simp only [E.nam, C.den, he]; cases b <;> rfl⟩
    simp only [hop, execOp, ha.1, ha.2, Sem.run_bind, g1, g3, Result.andThen_ok, Sem.run_pure, concE_bool]
/-- Is it nil? -/
def isNil : Value → Bool
  | .slice none _ _ => true
  | .pointer none => true
  | .map none => true
  | _ => false
def NilPtr (G : List Ob) (x y : Value) (b : Bool) : Prop := y = .pointer none ∧ b = isNil x ∧ (x = .pointer none ∨ ∃ n k, x = tokAt n k ∧ n < G.length)
theorem eq_none_none {t el : TypeId} {w : World} (hu : P.underlying t = some (.pointer el)) : (Op.equal t (.pointer none) (.pointer none)).run P w = .ok true w := by
  show (Op.equalIn (9999 + 1) t _ _).run P w = _
  rw [Op.equalIn, Sem.run_bind, run_underlying hu]
  rfl
theorem eq_nilslice {t el : TypeId} {w : World} {a : Option Addr} {n c m k : Nat} (hu : P.underlying t = some (.slice el)) : (Op.equal t (.slice a n c) (.slice none m k)).run P w = .ok a.isNone w := by
  show (Op.equalIn (9999 + 1) t _ _).run P w = _
  rw [Op.equalIn, Sem.run_bind, run_underlying hu]
  cases a <;> rfl
theorem ptr_holds {t el : TypeId} (hu : P.underlying t = some (.pointer el)) : (eqC t).holds P (conR (CmpR NilPtr false)) ∧ (neC t).holds P (conR (CmpR NilPtr true)) := by
  refine eq_holds (fun G X x y b h1 h2 => ?_) ?_
  · unfold NilPtr
    rw [List.length_append]
    constructor
    · rintro ⟨g1, g2, g3⟩
      exact ⟨g1, g2, g3.imp id fun ⟨n, k, e, h⟩ => ⟨n, k, e, by omega⟩⟩
    · rintro ⟨g1, g2, g3⟩
      exact ⟨g1, g2, g3.imp id fun ⟨n, k, e, h⟩ => ⟨n, k, e, h2 n k (by simp [e])⟩⟩
  · rintro w h F G f x y b ox oy H ⟨rfl, rfl, h1⟩
    rcases h1 with rfl | ⟨n, k, rfl, hn⟩
    · have e1 : concE h (.pointer none) = .pointer none := rfl
      refine ⟨fun o => by rw [e1]; unfold eqGuard; cases o <;> rfl, ?_, ?_⟩
      · rw [e1]; simp only [binOp, Sem.run_bind, eq_none_none hu, Result.andThen_ok, Sem.run_pure]; rfl
      · rw [e1]; simp only [binOp, Sem.run_bind, eq_none_none hu, Result.andThen_ok, Sem.run_pure]; rfl
    · have e1 : concE h (.pointer none) = .pointer none := rfl
      obtain ⟨b', o', e2⟩ := hatV_form (h n).val
      rw [e1, concE_at, e2]
      refine ⟨fun o => by unfold eqGuard; cases o <;> rfl, ?_, ?_⟩
      · simp only [binOp, Sem.run_bind, eq_some_none hu, Result.andThen_ok, Sem.run_pure]; rfl
      · simp only [binOp, Sem.run_bind, eq_some_none hu, Result.andThen_ok, Sem.run_pure]; rfl
def NilSl (G : List Ob) (x y : Value) (b : Bool) : Prop := y = .slice none 0 0 ∧ b = isNil x ∧ ∃ s len cells, Sl G x s len cells
theorem slice_holds {t el : TypeId} (hu : P.underlying t = some (.slice el)) : (eqC t).holds P (conR (CmpR NilSl false)) ∧ (neC t).holds P (conR (CmpR NilSl true)) := by
  refine eq_holds (fun G X x y b h1 h2 => ?_) ?_
  · constructor
    · rintro ⟨g1, g2, s, len, cells, g3⟩
      exact ⟨g1, g2, s, len, cells, g3.append⟩
    · rintro ⟨g1, g2, s, len, cells, g3⟩
      exact ⟨g1, g2, s, len, cells, (Sl.loc fun n hn => h1 n (by simp [hn])).2 g3⟩
  · rintro w h F G f x y b ox oy H ⟨rfl, rfl, s, len, cells, h1⟩
    have e1 : concE h (.slice none 0 0) = .slice none 0 0 := rfl
    obtain ⟨a, cap, hv, hb⟩ : ∃ a cap, concE h x = .slice a len cap ∧ a.isNone = isNil x := by
      rcases h1 with ⟨rfl, rfl, rfl⟩ | ⟨m, k, all, h1, _⟩
      · exact ⟨none, 0, rfl, rfl⟩
      · obtain ⟨a, cap, g1, _⟩ := h1.val H
        obtain ⟨n, rfl, _⟩ := h1
        exact ⟨_, cap, g1, rfl⟩
    rw [e1, hv]
    refine ⟨fun o => by unfold eqGuard; cases o <;> rfl, ?_, ?_⟩
    · simp only [binOp, Sem.run_bind, eq_nilslice hu, Result.andThen_ok, Sem.run_pure, hb]
    · simp only [binOp, Sem.run_bind, eq_nilslice hu, Result.andThen_ok, Sem.run_pure, hb]
/-- Arrays of integers. -/
def IntsEq (n : Nat) (k : IntKind) (_ : List Ob) (x y : Value) (b : Bool) : Prop := ∃ xs ys : List Int, x = .agg (xs.map (Value.int k)).toArray ∧ y = .agg (ys.map (Value.int k)).toArray ∧ xs.length = n ∧ ys.length = n ∧ b = decide (xs = ys)
theorem eqItems_ints {e : TypeId} {k : IntKind} (hu : P.underlying e = some (.int k)) (dd : Nat) (w : World) (xs ys : List Int) : ∀ (m i : Nat), i + m = xs.length → i + m = ys.length →
    (Op.eqItems (dd + 1) e 1 (xs.map (Value.int k)).toArray (ys.map (Value.int k)).toArray (List.range' i m)).run P w = .ok (decide (xs.drop i = ys.drop i)) w
  | 0, i, h1, h2 => by rw [List.range'_zero]; simp [Op.eqItems, List.drop_eq_nil_of_le (show xs.length ≤ i by omega), List.drop_eq_nil_of_le (show ys.length ≤ i by omega)]
  | m + 1, i, h1, h2 => by
    have hp' : P.plainKey e = true := by simp [Program.plainKey, hu]
    have hi1 : i < xs.length := by omega
    have hi2 : i < ys.length := by omega
    have p1 : (part e (xs.map (Value.int k)).toArray i).run P w = .ok (.int k xs[i]) w := run_part_plain w hp' (by simp [hi1])
    have p2 : (part e (ys.map (Value.int k)).toArray i).run P w = .ok (.int k ys[i]) w := run_part_plain w hp' (by simp [hi2])
    have p3 : (Op.equalIn (dd + 1) e (.int k xs[i]) (.int k ys[i])).run P w = .ok (xs[i] == ys[i]) w := run_equalIn_int w dd e k k _ _ hu
    have ih := eqItems_ints hu dd w xs ys m (i + 1) (by omega) (by omega)
    rw [List.range'_succ]
    simp only [Op.eqItems, Nat.mul_one, Sem.run_bind, p1, p2, p3, Result.andThen_ok]
    rw [List.drop_eq_getElem_cons hi1, List.drop_eq_getElem_cons hi2]
    by_cases hq : xs[i] = ys[i]
    · rw [if_neg (by simp [hq]), ih]
      simp only [List.cons.injEq, hq, true_and]
    · rw [if_pos (by simp [hq])]
      simp only [List.cons.injEq, hq, false_and, decide_false]
      rfl
theorem ints_holds {t e : TypeId} {n : Nat} {i : TypeInfo} {k : IntKind} (hu : P.underlying t = some (.array n e)) (hi : P.info? e = some i) (he : P.underlying e = some (.int k)) (hc : P.cellsOf e = 1) (hg : P.eqGuardType P.depth t = false) :
    (eqC t).holds P (conR (CmpR (IntsEq n k) false)) ∧ (neC t).holds P (conR (CmpR (IntsEq n k) true)) := by
  refine eq_holds (fun G X x y b h1 h2 => Iff.rfl) ?_
  rintro w h F G f x y b ox oy H ⟨xs, ys, rfl, rfl, hx, hy, rfl⟩
  have hcn : ∀ zs : List Int, concE h (.agg (zs.map (Value.int k)).toArray) = .agg (zs.map (Value.int k)).toArray := fun zs => by
    rw [concE_agg, List.map_toArray, List.map_map]
    rfl
  rw [hcn, hcn]
  have heq : (Op.equal t (.agg (xs.map (Value.int k)).toArray) (.agg (ys.map (Value.int k)).toArray)).run P w = .ok (decide (xs = ys)) w := by
    show (Op.equalIn (9999 + 1) t _ _).run P w = _
    rw [run_equalIn_array w 9999 _ _ hu hi, hc, List.range_eq_range']
    have := eqItems_ints (P := P) he 9998 w xs ys n 0 (by omega) (by omega)
    simpa using this
  refine ⟨fun o => ?_, ?_, ?_⟩
  · unfold eqGuard
    cases o <;> first | rfl | simp [hg]
  · simp only [binOp, Sem.run_bind, heq, Result.andThen_ok, Sem.run_pure]
  · simp only [binOp, Sem.run_bind, heq, Result.andThen_ok, Sem.run_pure]
/-- Strings. -/
def StrEq (_ : List Ob) (x y : Value) (b : Bool) : Prop := ∃ s s' : ByteArray, x = .string s ∧ y = .string s' ∧ b = (s.toList == s'.toList)
theorem str_holds {t : TypeId} : (eqC t).holds P (conR (CmpR StrEq false)) ∧ (neC t).holds P (conR (CmpR StrEq true)) := by
  refine eq_holds (fun G X x y b h1 h2 => Iff.rfl) ?_
  rintro w h F G f x y b ox oy H ⟨s, s', rfl, rfl, rfl⟩
  have hcn : ∀ s : ByteArray, concE h (.string s) = .string s := fun _ => rfl
  rw [hcn, hcn]
  refine ⟨fun o => ?_, ?_, ?_⟩
  · unfold eqGuard; cases o <;> rfl
  · simp only [binOp, Op.stringOp, Sem.run_pure]
  · simp only [binOp, Op.stringOp, Sem.run_pure]
end
end Sx
end Go.Proofs.Ytaigdbnfhehclaa

namespace Go.Proofs.Ytaigdbnfhehclaa
namespace Sx
open Go.RowKit

/-- The first entry of a key. -/
noncomputable def findIx (v : Value) : List MapEntry → Nat → Option (Nat × Value)
  | [], _ => none
  | e :: es, i => open Classical in if v = e.key then some (i, e.val) else findIx v es (i + 1)
noncomputable def getL (l : List (Value × Value)) (k : Value) : Option Value := match l with
  | [] => none
  | p :: r => open Classical in if k = p.1 then some p.2 else getL r k
noncomputable def putL (l : List (Value × Value)) (k v : Value) : List (Value × Value) := match l with
  | [] => [(k, v)]
  | p :: r => open Classical in if k = p.1 then (k, v) :: r else p :: putL r k v
/-- Keys that are told apart by what they are. -/
structure KeyT (P : Program) (kt : TypeId) (ok : Value → Prop) : Prop where
  chk : ∀ em v w, ok v → (Instr.checkKey em 10000 kt v).run P w = .ok () w
  find : ∀ v (es : List MapEntry) w, ok v → (∀ e ∈ es, ok e.key) → (Instr.findKey kt v es).run P w = .ok (findIx v es 0) w
  bits : ∀ v, ok v → Instr.sameBits 10000 v v = true
  conc : ∀ v h, ok v → concE h v = v
section
variable {P : Program}
theorem findAsking_spec {kt : TypeId} {v : Value} {w : World} : ∀ (es : List MapEntry) (i : Nat), (∀ e ∈ es, ∃ b : Bool, (Op.equal kt v e.key).run P w = .ok b w ∧ (b = true ↔ v = e.key)) → (Instr.findAsking kt v es i).run P w = .ok (findIx v es i) w
  | [], _, _ => rfl
  | e :: es, i, h => by
    obtain ⟨b, h1, h2⟩ := h e (List.mem_cons_self ..)
    have ih := findAsking_spec es (i + 1) fun x hx => h x (List.mem_cons_of_mem _ hx)
    unfold Instr.findAsking findIx
    simp only [Sem.run_bind, h1, Result.andThen_ok]
    cases b with
    | true => rw [if_pos rfl, if_pos (h2.1 rfl)]; rfl
    | false => rw [if_neg (by simp), if_neg (fun e => by have := h2.2 e; cases this)]; exact ih
theorem findNow_int {k : IntKind} {n : Int} : ∀ (es : List MapEntry) (i : Nat), (∀ e ∈ es, ∃ m, e.key = .int k m) → Instr.findNow (.int k) (.int k n) es i = some (findIx (.int k n) es i)
  | [], _, _ => rfl
  | e :: es, i, h => by
    obtain ⟨m, hm⟩ := h e (List.mem_cons_self ..)
    have ih := findNow_int (n := n) es (i + 1) fun x hx => h x (List.mem_cons_of_mem _ hx)
    have hs : Instr.sameNow (.int k) (.int k n) e.key = some (n == m) := by rw [hm]; simp [Instr.sameNow]
    unfold Instr.findNow findIx
    rw [hs]
    by_cases e1 : n = m
    · subst e1
      rw [if_pos hm.symm, beq_self_eq_true]
    · rw [if_neg (by rw [hm]; simpa using e1)]
      have : (n == m) = false := by simpa using e1
      rw [this]
      exact ih
theorem keyInt {kt : TypeId} {k : IntKind} (hu : P.underlying kt = some (.int k)) : KeyT P kt (fun v => ∃ n, v = .int k n) where
  chk := by rintro em v w ⟨n, rfl⟩; show (Instr.checkKey em (9999 + 1) kt _).run P w = _; rw [Instr.checkKey, Sem.run_bind, run_underlying hu]; rfl
  find := by
    rintro v es w ⟨n, rfl⟩ h
    unfold Instr.findKey
    rw [Sem.run_bind, run_underlying hu, Result.andThen_ok, findNow_int es 0 h]
    rfl
  bits := by rintro v ⟨n, rfl⟩; show Instr.sameBits (9999 + 1) _ _ = true; simp [Instr.sameBits]
  conc := by rintro v h ⟨n, rfl⟩; rfl
theorem check_ints {e : TypeId} {k : IntKind} (he : P.underlying e = some (.int k)) (em : Bool) (m : Nat) (xs : List Int) (w : World) : ∀ is : List Nat, (∀ i ∈ is, i < xs.length) →
    (forIn is PUnit.unit (fun i (_ : PUnit) => do Instr.checkKey em (m + 1) e (← part e (xs.map (Value.int k)).toArray (i * (← sizeOf e))); pure (ForInStep.yield PUnit.unit) : Nat → PUnit → Sem (ForInStep PUnit))).run P w = .ok PUnit.unit w ∨ P.cellsOf e ≠ 1
  | [], _ => .inl rfl
  | i :: is, h => by
    by_cases hc : P.cellsOf e = 1
    · rcases check_ints he em m xs w is (fun j hj => h j (List.mem_cons_of_mem _ hj)) with ih | ih
      · left
        obtain ⟨inf, hi⟩ := info_of_underlying he
        have hp' : P.plainKey e = true := by simp [Program.plainKey, he]
        have hil := h i (List.mem_cons_self ..)
        have p1 : (part e (xs.map (Value.int k)).toArray i).run P w = .ok (.int k xs[i]) w := run_part_plain w hp' (by simp [hil])
        have p2 : (Instr.checkKey em (m + 1) e (.int k xs[i])).run P w = .ok () w := by rw [Instr.checkKey, Sem.run_bind, run_underlying he]; rfl
        rw [List.forIn_cons]
        simp only [Sem.run_bind, run_sizeOf w hi, hc, Result.andThen_ok, Nat.mul_one, p1, p2, Sem.run_pure]
        exact ih
      · exact absurd hc ih
    · exact .inr hc
def IntsKey (n : Nat) (k : IntKind) (v : Value) : Prop := ∃ xs : List Int, v = .agg (xs.map (Value.int k)).toArray ∧ xs.length = n
theorem ints_inj {k : IntKind} {xs ys : List Int} (h : Value.agg (xs.map (Value.int k)).toArray = .agg (ys.map (Value.int k)).toArray) : xs = ys := by
  have h2 := congrArg Array.toList (Value.agg.inj h)
  exact List.map_inj_right (fun a b hab => by injection hab) |>.1 h2
theorem keyInts {kt e : TypeId} {n : Nat} {i : TypeInfo} {k : IntKind} (hu : P.underlying kt = some (.array n e)) (hi : P.info? e = some i) (he : P.underlying e = some (.int k)) (hc : P.cellsOf e = 1) : KeyT P kt (IntsKey n k) where
  chk := by
    rintro em v w ⟨xs, rfl, hx⟩
    show (Instr.checkKey em (9998 + 1 + 1) kt _).run P w = _
    have h1 := (check_ints (P := P) he em 9998 xs w (List.range' 0 n) (fun j hj => by rw [List.mem_range'_1] at hj; omega)).resolve_right (fun hne => hne hc)
    rw [Instr.checkKey, Sem.run_bind, run_underlying hu]
    simp only [Result.andThen_ok, Std.Legacy.Range.forIn_eq_forIn_range', Std.Legacy.Range.size, Nat.sub_zero, Nat.add_one_sub_one, Nat.div_one]
    rw [Sem.run_bind, h1]
    rfl
  find := by
    rintro v es w ⟨xs, rfl, hx⟩ h
    have h1 : (Instr.findAsking kt (.agg (xs.map (Value.int k)).toArray) es 0).run P w = .ok (findIx (.agg (xs.map (Value.int k)).toArray) es 0) w := findAsking_spec es 0 fun en hen => by
      obtain ⟨ys, hy, hyl⟩ := h en hen
      refine ⟨decide (xs = ys), ?_, ?_⟩
      · rw [hy]
        show (Op.equalIn (9999 + 1) kt _ _).run P w = _
        rw [run_equalIn_array w 9999 _ _ hu hi, hc, List.range_eq_range']
        have := eqItems_ints (P := P) he 9998 w xs ys n 0 (by omega) (by omega)
        simpa using this
      · rw [hy, decide_eq_true_eq]
        exact ⟨fun e => by rw [e], ints_inj⟩
    unfold Instr.findKey
    rw [Sem.run_bind, run_underlying hu, Result.andThen_ok]
    cases es with
    | nil => rfl
    | cons en es =>
      obtain ⟨ys, hy, hyl⟩ := h en (List.mem_cons_self ..)
      have : Instr.findNow (.array n e) (.agg (xs.map (Value.int k)).toArray) (en :: es) 0 = none := by
        unfold Instr.findNow
        rw [hy]
        rfl
      rw [this]
      exact h1
  bits := by
    rintro v ⟨xs, rfl, hx⟩
    show Instr.sameBits (9999 + 1) _ _ = true
    unfold Instr.sameBits
    simp only [beq_self_eq_true, Bool.true_and]
    rw [List.all_eq_true]
    intro p hp
    obtain ⟨j, hj⟩ := List.getElem?_of_mem hp
    rw [List.getElem?_zip_eq_some] at hj
    obtain ⟨h1, h2⟩ := hj
    have h3 : p.1 = p.2 := by rw [h1] at h2; exact Option.some.inj h2
    simp only [List.getElem?_map] at h1
    cases hq : xs[j]? with
    | none => simp [hq] at h1
    | some y =>
      simp [hq] at h1
      obtain ⟨p1, p2⟩ := p
      simp only at h1 h3 ⊢
      subst h3 h1
      simp [Instr.sameBits]
  conc := by
    rintro v h ⟨xs, rfl, _⟩
    rw [concE_agg, List.map_toArray, List.map_map]
    rfl
/-- The map of an object is that of the world. -/
theorem findIx_get {c : Value → Value} {k : Value} : ∀ (es : List MapEntry) (l : List (Value × Value)) (i : Nat), es.map (fun e => (e.key, e.val)) = l.map (fun p => (p.1, c p.2)) → (findIx k es i).map (·.2) = (getL l k).map c
  | [], l, i, he => by
    cases l with
    | nil => rfl
    | cons p r => cases he
  | e :: es, l, i, he => by
    cases l with
    | nil => cases he
    | cons p r =>
      simp only [List.map_cons, List.cons.injEq, Prod.mk.injEq] at he
      obtain ⟨⟨e1, e2⟩, e3⟩ := he
      unfold findIx getL
      rw [e1]
      split
      · rw [Option.map_some, Option.map_some, e2]
      · exact findIx_get es r (i + 1) e3
theorem findIx_put {c : Value → Value} {k v : Value} : ∀ (es : List MapEntry) (l : List (Value × Value)) (i : Nat), es.map (fun e => (e.key, e.val)) = l.map (fun p => (p.1, c p.2)) →
    (findIx k es i = none → (es.map (fun e => (e.key, e.val)) ++ [(k, c v)]) = (putL l k v).map (fun p => (p.1, c p.2))) ∧
    (∀ j u, findIx k es i = some (j, u) → i ≤ j ∧ (es[j - i]?).map (·.key) = some k ∧ (es.modify (j - i) (fun e => { e with key := k, val := c v })).map (fun e => (e.key, e.val)) = (putL l k v).map (fun p => (p.1, c p.2)))
  | [], l, i, he => by
    cases l with
    | nil => exact ⟨fun _ => rfl, fun j u h => by cases h⟩
    | cons p r => cases he
  | e :: es, l, i, he => by
    cases l with
    | nil => cases he
    | cons p r =>
      simp only [List.map_cons, List.cons.injEq, Prod.mk.injEq] at he
      obtain ⟨⟨e1, e2⟩, e3⟩ := he
      obtain ⟨ih1, ih2⟩ := findIx_put (k := k) (v := v) es r (i + 1) e3
      unfold findIx putL
      rw [e1]
      by_cases hk : k = p.1
      · rw [if_pos hk, if_pos hk]
        refine ⟨fun h => (by cases h), fun j u hj => ?_⟩
        cases hj
        refine ⟨Nat.le_refl _, ?_, ?_⟩
        · simp [e1, hk]
        · simp [e3]
      · rw [if_neg hk, if_neg hk]
        refine ⟨fun hn => ?_, fun j u hj => ?_⟩
        · rw [List.map_cons, List.cons_append, ih1 hn, List.map_cons, e1, e2]
        · obtain ⟨g1, g2, g3⟩ := ih2 j u hj
          refine ⟨by omega, ?_, ?_⟩
          · rw [show j - i = (j - (i + 1)) + 1 by omega, List.getElem?_cons_succ]; exact g2
          · rw [show j - i = (j - (i + 1)) + 1 by omega, List.modify_succ_cons, List.map_cons, g3, List.map_cons, e1, e2]
/-- The order of a map's entries does not matter. -/
theorem getL_none {l : List (Value × Value)} {k : Value} : getL l k = none ↔ k ∉ l.map (·.1) := by
  induction l with
  | nil => simp [getL]
  | cons p r ih =>
    unfold getL
    by_cases h : k = p.1
    · rw [if_pos h]; simp [h]
    · rw [if_neg h, ih]; simp [h]
theorem getL_some {l : List (Value × Value)} {k v : Value} (hn : (l.map (·.1)).Nodup) : getL l k = some v ↔ (k, v) ∈ l := by
  induction l with
  | nil => simp [getL]
  | cons p r ih =>
    rw [List.map_cons, List.nodup_cons] at hn
    unfold getL
    by_cases h : k = p.1
    · rw [if_pos h, Option.some.injEq]
      constructor
      · rintro rfl
        rw [h]
        exact List.mem_cons_self ..
      · intro hm
        rcases List.mem_cons.1 hm with hm | hm
        · rw [← hm]
        · exact absurd (List.mem_map.2 ⟨_, hm, h⟩) hn.1
    · rw [if_neg h, ih hn.2]
      constructor
      · exact fun hm => List.mem_cons_of_mem _ hm
      · intro hm
        rcases List.mem_cons.1 hm with hm | hm
        · exact absurd (by rw [← hm]) h
        · exact hm
theorem getL_perm {l l' : List (Value × Value)} (h : l.Perm l') (hn : (l'.map (·.1)).Nodup) (k : Value) : getL l k = getL l' k := by
  have hn' : (l.map (·.1)).Nodup := (h.map _).nodup_iff.2 hn
  cases hg : getL l' k with
  | none =>
    rw [getL_none] at hg ⊢
    exact fun hm => hg ((h.map _).mem_iff.1 hm)
  | some v =>
    rw [getL_some hn] at hg
    rw [getL_some hn']
    exact h.mem_iff.2 hg
theorem putL_keys {l : List (Value × Value)} {k v : Value} : (putL l k v).map (·.1) = open Classical in if k ∈ l.map (·.1) then l.map (·.1) else l.map (·.1) ++ [k] := by
  induction l with
  | nil => simp [putL]
  | cons p r ih =>
    unfold putL
    by_cases h : k = p.1
    · rw [if_pos h]; simp [h]
    · rw [if_neg h, List.map_cons, ih]
      by_cases hm : k ∈ r.map (·.1)
      · rw [if_pos hm, if_pos (show k ∈ (p :: r).map (·.1) from List.mem_cons_of_mem _ hm)]
        rfl
      · rw [if_neg hm, if_neg (show ¬ k ∈ (p :: r).map (·.1) by rw [List.map_cons, List.mem_cons]; exact fun h' => h'.elim h hm)]
        rfl
theorem putL_nodup {l : List (Value × Value)} {k v : Value} (h : (l.map (·.1)).Nodup) : ((putL l k v).map (·.1)).Nodup := by
  rw [putL_keys]
  split
  · exact h
  · rename_i hm
    rw [List.nodup_append]
    exact ⟨h, by simp, fun a ha b hb e => by rw [List.mem_singleton] at hb; subst hb; subst e; exact hm ha⟩
theorem getL_put {l : List (Value × Value)} {k v k' : Value} : getL (putL l k v) k' = open Classical in if k' = k then some v else getL l k' := by
  induction l with
  | nil =>
    unfold putL
    simp only [getL]
  | cons p r ih =>
    unfold putL
    by_cases h : k = p.1
    · rw [if_pos h]
      by_cases h' : k' = k
      · subst h'; simp [getL]
      · rw [if_neg h']
        have : ¬ k' = p.1 := fun e => h' (e.trans h.symm)
        simp [getL, h', this]
    · rw [if_neg h]
      by_cases h' : k' = k
      · subst h'
        rw [if_pos rfl]
        rw [if_pos rfl] at ih
        simp [getL, h, ih]
      · rw [if_neg h']
        rw [if_neg h'] at ih
        simp [getL, ih]
/-- Two maps that answer the same hold the same. -/
theorem perm_of_get {l l' : List (Value × Value)} (hn : (l.map (·.1)).Nodup) (hn' : (l'.map (·.1)).Nodup) (h : ∀ k, getL l k = getL l' k) : l.Perm l' := by
  have nd : ∀ {m : List (Value × Value)}, (m.map (·.1)).Nodup → m.Nodup := fun {m} hm => by
    induction m with
    | nil => exact List.nodup_nil
    | cons a r ih =>
      rw [List.map_cons, List.nodup_cons] at hm
      exact List.nodup_cons.2 ⟨fun ha => hm.1 (List.mem_map.2 ⟨a, ha, rfl⟩), ih hm.2⟩
  refine (List.perm_ext_iff_of_nodup (nd hn) (nd hn')).2 fun p => ?_
  obtain ⟨k, v⟩ := p
  rw [← getL_some hn, ← getL_some hn', h]
theorem putL_perm {l l' : List (Value × Value)} (h : l.Perm l') (hn : (l'.map (·.1)).Nodup) (k v : Value) : (putL l k v).Perm (putL l' k v) :=
  perm_of_get (putL_nodup ((h.map _).nodup_iff.2 hn)) (putL_nodup hn) fun k' => by rw [getL_put, getL_put, getL_perm h hn]
theorem getL_map {c : Value → Value} {l : List (Value × Value)} {k : Value} : getL (l.map fun p => (p.1, c p.2)) k = (getL l k).map c := by
  induction l with
  | nil => rfl
  | cons p r ih =>
    rw [List.map_cons]
    unfold getL
    by_cases h : k = p.1
    · rw [if_pos h, if_pos h]; rfl
    · rw [if_neg h, if_neg h]; exact ih
theorem putL_map {c : Value → Value} {l : List (Value × Value)} {k v : Value} : putL (l.map fun p => (p.1, c p.2)) k (c v) = (putL l k v).map fun p => (p.1, c p.2) := by
  induction l with
  | nil => rfl
  | cons p r ih =>
    rw [List.map_cons]
    unfold putL
    by_cases h : k = p.1
    · rw [if_pos h, if_pos h]; rfl
    · rw [if_neg h, if_neg h, List.map_cons, ih]
def pairsOf (es : List MapEntry) : List (Value × Value) := es.map fun e => (e.key, e.val)
theorem pairs_id (es : List MapEntry) : es.map (fun e => (e.key, e.val)) = (pairsOf es).map (fun p => (p.1, id p.2)) := by
  unfold pairsOf
  simp
theorem mapIs_find {es : List MapEntry} {l : List (Value × Value)} {c : Value → Value} (h : MapIs (es.map fun e => (e.key, e.val)) (l.map fun p => (p.1, c p.2))) (k : Value) : (findIx k es 0).map (·.2) = (getL l k).map c := by
  have h1 := findIx_get (k := k) es (pairsOf es) 0 (pairs_id es)
  have h2 := getL_perm h.1 h.2 k
  rw [h1, Option.map_id, id_eq, ← getL_map]
  exact h2
theorem mapIs_push {es : List MapEntry} {l : List (Value × Value)} {c : Value → Value} {k v : Value} (h : MapIs (es.map fun e => (e.key, e.val)) (l.map fun p => (p.1, c p.2))) (hf : findIx k es 0 = none) : MapIs (es.map (fun e => (e.key, e.val)) ++ [(k, c v)]) ((putL l k v).map fun p => (p.1, c p.2)) := by
  have h1 := (findIx_put (c := id) (k := k) (v := c v) es (pairsOf es) 0 (pairs_id es)).1 hf
  have h2 := putL_perm h.1 h.2 k (c v)
  rw [putL_map] at h2
  refine ⟨?_, ?_⟩
  · rw [show es.map (fun e => (e.key, e.val)) ++ [(k, c v)] = (putL (es.map fun e => (e.key, e.val)) k (c v)) by
      have h3 : (putL (pairsOf es) k (c v)).map (fun p => (p.1, id p.2)) = putL (pairsOf es) k (c v) := by simp
      rw [h3] at h1
      exact h1]
    exact h2
  · rw [← putL_map]
    exact putL_nodup h.2
theorem mapIs_modify {es : List MapEntry} {l : List (Value × Value)} {c : Value → Value} {k v u : Value} {j : Nat} (h : MapIs (es.map fun e => (e.key, e.val)) (l.map fun p => (p.1, c p.2))) (hf : findIx k es 0 = some (j, u)) :
    (es[j]?).map (·.key) = some k ∧ MapIs ((es.modify j (fun e => { e with key := k, val := c v })).map fun e => (e.key, e.val)) ((putL l k v).map fun p => (p.1, c p.2)) := by
  obtain ⟨_, g2, g3⟩ := (findIx_put (c := id) (k := k) (v := c v) es (pairsOf es) 0 (pairs_id es)).2 j u hf
  rw [Nat.sub_zero] at g2 g3
  have h2 := putL_perm h.1 h.2 k (c v)
  rw [putL_map] at h2
  refine ⟨g2, ?_, ?_⟩
  · have h3 : (putL (pairsOf es) k (c v)).map (fun p => (p.1, id p.2)) = putL (pairsOf es) k (c v) := by simp
    rw [h3] at g3
    exact (List.Perm.of_eq g3).trans h2
  · rw [← putL_map]
    exact putL_nodup h.2
theorem findIx_none {k : Value} : ∀ (es : List MapEntry) (i : Nat), findIx k es i = none → ∀ x ∈ es, x.key ≠ k
  | [], _, _, x, hx => by cases hx
  | e :: es, i, h, x, hx => by
    unfold findIx at h
    split at h
    · cases h
    · rename_i hne
      rcases List.mem_cons.1 hx with rfl | hx
      · exact fun he => hne he.symm
      · exact findIx_none es (i + 1) h x hx
theorem key_makeMap {op : Op} {t : TypeId} (h : primKey op = some (primBase + (32 * t + 8))) : op = .makeMap t none := by
  unfold primKey at h
  repeat' split at h
  all_goals (try (exact absurd h.symm (Option.some_ne_none _)))
  all_goals (rw [Option.some.injEq] at h)
  all_goals (try (exfalso; omega))
  rename_i t'
  have : @Eq Nat t' t := by omega
  subst this
  rfl
theorem key_lookup {op : Op} {t : TypeId} {c : Bool} (h : primKey op = some (primBase + (32 * (2 * t + (if c then 1 else 0)) + 6))) : ∃ x y, op = .lookup t x y c := by
  unfold primKey at h
  repeat' split at h
  all_goals (try (exact absurd h.symm (Option.some_ne_none _)))
  all_goals (rw [Option.some.injEq] at h)
  all_goals (try (exfalso; split at h <;> omega))
  all_goals (try (exfalso; omega))
  · rename_i t' x y c' hc' hx
    cases c with
    | true =>
      have : @Eq Nat t' t := by simp at h; omega
      subst this
      exact ⟨_, _, by rw [hc']⟩
    | false => cases hx
  · rename_i t' x y c' hc' hx
    cases c with
    | false =>
      have : @Eq Nat t' t := by simp at h; omega
      subst this
      exact ⟨_, _, by simp at hc'; rw [hc']⟩
    | true => exact absurd rfl hx
theorem key_update {op : Op} {t : TypeId} (h : primKey op = some (primBase + (32 * t + 7))) : ∃ m k v, op = .mapUpdate t m k v := by
  unfold primKey at h
  repeat' split at h
  all_goals (try (exact absurd h.symm (Option.some_ne_none _)))
  all_goals (rw [Option.some.injEq] at h)
  all_goals (try (exfalso; omega))
  rename_i t' x y z
  have : @Eq Nat t' t := by omega
  subst this
  exact ⟨_, _, _, rfl⟩
end
end Sx
end Go.Proofs.Ytaigdbnfhehclaa

namespace Go.Proofs.Ytaigdbnfhehclaa
namespace Sx
open Go.RowKit

section
variable {P : Program}
def mapV (r : Nat) : OneV := ⟨.map (some r), rfl⟩
def mmC (t : TypeId) : Con := ⟨primBase + (32 * t + 8), [], fun b => (E.hnd 0).shift b, 2, 0, 1⟩
def mmR (G : List Ob) (l : List Value) (e : Env) : Prop := l = [] ∧ e.v 0 = tok G.length ∧ e.g gv = encG (G ++ [.map []])
theorem mm_holds {t : TypeId} : (mmC t).holds P (conR mmR) := by
  refine turn_holds rfl (Nat.le_add_right _ _) (fun G l e _ ⟨_, _, hG⟩ => ⟨_, hG, ext1 _⟩) ?_
  rintro o hkey a w h F G f l e hargs H ⟨rfl, he, hG⟩
  have hop := key_makeMap hkey
  have hh : HoldsOb (w.alloc (.map #[] 0)) (hPush h G.length (mapV w.heap.size)) (G.length + 1) (mapV w.heap.size).val (fun i _ => i = w.heap.size) (.map []) :=
    ⟨w.heap.size, #[], 0, rfl, (MapKept.heap_alloc w _).1, ⟨⟨List.Perm.refl _, List.nodup_nil⟩, MapKept.stamped_empty _⟩, fun p hp => (by cases hp), fun i x => Iff.rfl⟩
  obtain ⟨F', f'', g1, g2, g3, g4, g5⟩ := turn_new H _ _ (fun b x hx => hx) hh
  refine ⟨_, _, _, F', f'', _, ?_, hG, .inl ⟨tok G.length, rfl, by simp only [E.nam, he]; exact oneOf_eq rfl, Inv.name (by simp)⟩, g1, g2, g3, g4, g5⟩
  simp only [hop, execOp, Option.map_none, Instr.makeMap, newObj, Sem.run_bind, Sem.run, Sem.run_pure, Result.andThen_ok, concE_name, hPush_new]
  rfl
/-- What a key leads to; a nought if there is none. -/
def luC (t : TypeId) (r : E) : Con := ⟨primBase + (32 * (2 * t + (if false then 1 else 0)) + 6), [], fun b => r.shift b, 1, 1, 0⟩
def luR (ok : Value → Prop) (z : Value) (r : E) (G : List Ob) (l : List Value) (e : Env) : Prop := ∃ n L k, l = [tok n, k] ∧ G[n]? = some (.map L) ∧ ok k ∧ (∀ p ∈ L, ok p.1) ∧ r.nam e lay0 = (getL L k).getD z
theorem getL_mem {k v : Value} : ∀ {L : List (Value × Value)}, getL L k = some v → ∃ p ∈ L, p.2 = v
  | [], h => by cases h
  | p :: r, h => by
    unfold getL at h
    split at h
    · cases h; exact ⟨p, List.mem_cons_self .., rfl⟩
    · obtain ⟨q, h1, h2⟩ := getL_mem h; exact ⟨q, List.mem_cons_of_mem _ h1, h2⟩
theorem map_loc {G X : List Ob} {n : Nat} {L : List (Value × Value)} (h : n < G.length) : G[n]? = some (.map L) ↔ (G ++ X)[n]? = some (.map L) := by rw [List.getElem?_append_left h]
theorem keys_ok {h : Nat → OneV} {ok : Value → Prop} {es : List MapEntry} {L : List (Value × Value)} (he : MapIs (es.map fun e => (e.key, e.val)) (L.map fun p => (p.1, concE h p.2))) (hL : ∀ p ∈ L, ok p.1) : ∀ e ∈ es, ok e.key := fun e hm => by
  have h1 : (e.key, e.val) ∈ es.map (fun e => (e.key, e.val)) := List.mem_map.2 ⟨e, hm, rfl⟩
  rw [he.1.mem_iff] at h1
  obtain ⟨p, hp, hpe⟩ := List.mem_map.1 h1
  have := hL p hp
  rw [show p.1 = e.key from congrArg Prod.fst hpe] at this
  exact this
theorem lu_holds {t kt et : TypeId} {i : TypeInfo} {z : Value} {ok : Value → Prop} {r : E} (hu : P.underlying t = some (.map kt et)) (hk : KeyT P kt ok) (hi : P.info? et = some i) (hz : i.zero = some z) (hzc : ∀ h, concE h z = z) (hr : (r.noPtr && r.lt stride) = true) :
    (luC t r).holds P (conR (luR ok z r)) := by
  refine read_holds hr (Nat.le_add_right _ _) (fun G G' l e _ hx hd => ?_) ?_
  · obtain ⟨X, rfl, h1, h2⟩ := loc1 hx hd
    constructor
    · rintro ⟨n, L, k, rfl, g1, g2⟩
      exact ⟨n, L, k, rfl, (map_loc (h1 n (List.mem_cons_self ..))).1 g1, g2⟩
    · rintro ⟨n, L, k, rfl, g1, g2⟩
      exact ⟨n, L, k, rfl, (map_loc (h1 n (List.mem_cons_self ..))).2 g1, g2⟩
  · rintro o hkey a w h F G f l e hargs H ⟨n, L, k, rfl, hn, hok, hL, hv⟩
    obtain ⟨x, y, hop⟩ := key_lookup hkey
    obtain ⟨rr, es, clock, h1, h2, h3, h4, h5⟩ := H.ob n _ hn
    have ha := hargs h fun _ _ => rfl
    rw [hop] at ha
    simp only [Op.operands, List.map_cons, List.map_nil, concE_name, h1, hk.conc k h hok, List.cons.injEq, and_true] at ha
    have hfind := mapIs_find h3.1 k
    have hf := hk.find k es.toList w hok (keys_ok h3.1 hL)
    have hzr : ∀ w, (zeroValue et).run P w = .ok z w := fun w => by simp [zeroValue, typeInfo, hi, hz]
    refine ⟨(getL L k).getD z, ?_, ?_, hv⟩
    · have hget := MapKept.run_getObj_map (P := P) h2
      simp only [hop, execOp, ha.1, ha.2, Instr.lookup, Sem.run_bind, run_underlying hu, Result.andThen_ok, hget, Sem.run_pure, hk.chk es.isEmpty k w hok, hf]
      cases hq : findIx k es.toList 0 with
      | none =>
        rw [hq] at hfind
        have : getL L k = none := by cases hg : getL L k with | none => rfl | some u => rw [hg] at hfind; cases hfind
        rw [this]
        simp only [Sem.run_bind, hzr, Result.andThen_ok, Sem.run_pure, Option.getD_none, hzc]
        rfl
      | some p =>
        obtain ⟨j, u⟩ := p
        rw [hq] at hfind
        cases hg : getL L k with
        | none => rw [hg] at hfind; cases hfind
        | some u' =>
          rw [hg] at hfind
          simp only [Option.map_some, Option.some.injEq] at hfind
          simp only [Option.getD_some, hfind]
          rfl
    · cases hg : getL L k with
      | none => exact Inv.of_const hzc
      | some u =>
        obtain ⟨p, hp, rfl⟩ := getL_mem hg
        exact h4 p hp
/-- A key leads to something. -/
def upC (t : TypeId) : Con := ⟨primBase + (32 * t + 7), [], fun b => (E.lit undef).shift b, 2, 0, 2⟩
def upR (ok : Value → Prop) (G : List Ob) (l : List Value) (e : Env) : Prop := ∃ n L k v, l = [tok n, k, v] ∧ G[n]? = some (.map L) ∧ ok k ∧ (∀ p ∈ L, ok p.1) ∧ e.g gv = encG (G.set n (.map (putL L k v)))
theorem putL_mem {k v : Value} : ∀ {L : List (Value × Value)}, ∀ p ∈ putL L k v, p = (k, v) ∨ p ∈ L
  | [], p, h => by simp [putL] at h; exact .inl h
  | q :: r, p, h => by
    unfold putL at h
    split at h
    · rcases List.mem_cons.1 h with h | h
      · exact .inl h
      · exact .inr (List.mem_cons_of_mem _ h)
    · rcases List.mem_cons.1 h with h | h
      · subst h; exact .inr (List.mem_cons_self ..)
      · exact (putL_mem p h).imp id (List.mem_cons_of_mem _)
theorem fr_setObj {w : World} {r : Nat} {es : Array MapEntry} {clock : Nat} (hb : w.heap[r]? = some (.map es clock)) (es' : Array MapEntry) (clock' : Nat) : Fr (fun i _ => i = r) w { w with heap := w.heap.setIfInBounds r (.map es' clock') } where
  os := rfl
  tape := rfl
  output := rfl
  size := by simp
  block i _ hn := (MapKept.heap_set hb).2 i fun e => hn 0 e
  cell i o _ hn := by unfold World.cell?; simp only; rw [(MapKept.heap_set hb).2 i hn]
  frozen i o hi := by
    have : i ≠ r := fun e => by subst e; unfold World.cell? at hi; simp [hb] at hi
    unfold World.frozen?; simp only; rw [(MapKept.heap_set hb).2 i this]
  shape i _ := by
    by_cases e : i = r
    · subst e
      unfold World.shape?
      simp only
      rw [(MapKept.heap_set hb).1, hb]
    · unfold World.shape?; simp only; rw [(MapKept.heap_set hb).2 i e]
  sane i _ hs := by
    intro c e lo hi hc
    by_cases e : i = r
    · subst e
      simp only [(MapKept.heap_set hb).1] at hc
      cases hc
    · simp only [(MapKept.heap_set hb).2 i e] at hc
      exact hs _ _ _ _ hc
  frl i _ _ := by
    by_cases e : i = r
    · subst e
      unfold frozenL
      simp only [(MapKept.heap_set hb).1, hb]
    · unfold frozenL
      simp only [(MapKept.heap_set hb).2 i e]
theorem up_holds {t kt et : TypeId} {ok : Value → Prop} (hu : P.underlying t = some (.map kt et)) (hk : KeyT P kt ok) : (upC t).holds P (conR (upR ok)) := by
  refine turn_holds rfl (Nat.le_add_right _ _) (fun G l e _ hR => ?_) ?_
  · obtain ⟨n, L, k, v, rfl, h1, _, _, hG⟩ := hR
    refine ⟨_, hG, ?_⟩
    unfold extG
    rw [if_neg (by decide), if_pos rfl]
    refine ⟨by simp, fun m o' ho hf => ?_⟩
    rw [List.getElem?_set_ne]
    · exact ho
    · intro e
      subst e
      rw [h1] at ho
      cases ho
      cases hf
  · rintro o hkey a w h F G f l e hargs H ⟨n, L, k, v, rfl, hn, hok, hL, hG⟩
    obtain ⟨x, y, z, hop⟩ := key_update hkey
    obtain ⟨rr, es, clock, h1, h2, h3, h4, h5⟩ := H.ob n _ hn
    have hinv := inv_args hargs v (by simp)
    have ha := hargs h fun _ _ => rfl
    rw [hop] at ha
    simp only [Op.operands, List.map_cons, List.map_nil, concE_name, h1, hk.conc k h hok, List.cons.injEq, and_true] at ha
    have hf := hk.find k es.toList w hok (keys_ok h3.1 hL)
    have hget := MapKept.run_getObj_map (P := P) h2
    have hend : ∀ es' clock', MapIs (es'.toList.map fun e => (e.key, e.val)) ((putL L k v).map fun p => (p.1, concE h p.2)) → MapKept.Stamped es' clock' → (execOp a.eval o).run P w = .ok .skip { w with heap := w.heap.setIfInBounds rr (.map es' clock') } →
        ∃ x w' h' F' f' G', (execOp a.eval o).run P w = .ok x w' ∧ e.g gv = encG G' ∧ ((∃ v, x = .value (concE h' v) ∧ (E.lit undef).nam e lay0 = v ∧ Inv h' G'.length v) ∨ (x = .skip ∧ E.lit undef = .lit undef)) ∧
          Fr F w w' ∧ Objs w' h' F' G' f' ∧ (∀ i x, F' i x → F i x ∨ w.heap.size ≤ i) ∧ G.length ≤ G'.length ∧ ∀ n, n < G.length → h' n = h n := fun es' clock' hes hst hrun => by
      have hset := H.set (fr_setObj h2 es' clock') (i := n) (o' := .map (putL L k v)) (f' := f n) hn rfl (fun b1 x1 _ hx => (h5 _ _).2 hx) (fun _ _ hx => .inl hx)
        ⟨rr, es', clock', h1, (MapKept.heap_set h2).1, ⟨hes, hst⟩, fun p hp => by
          rcases putL_mem p hp with hp | hp
          · subst hp; exact hinv
          · exact h4 p hp, h5⟩
      exact ⟨.skip, _, h, _, _, _, hrun, hG, .inr ⟨rfl, rfl⟩, (fr_setObj h2 es' clock').mono (fun b1 x1 _ hx => (H.foot _ _).2 ⟨n, (List.getElem?_eq_some_iff.1 hn).1, (h5 _ _).2 hx⟩), hset.1, hset.2, by simp, fun _ _ => rfl⟩
    cases hq : findIx k es.toList 0 with
    | none =>
      rw [hq] at hf
      refine hend (es.push { key := k, val := concE h v, born := clock }) (clock + 1) ?_ (MapKept.stamped_push h3.2 (findIx_none _ _ hq)) ?_
      · rw [Array.toList_push, List.map_append]
        exact mapIs_push h3.1 hq
      · have hset := MapKept.run_setObj_map (P := P) (.map (es.push { key := k, val := concE h v, born := clock }) (clock + 1)) h2
        simp only [hop, execOp, ha.1, ha.2.1, ha.2.2, Instr.mapUpdate, Sem.run_bind, run_underlying hu, Result.andThen_ok, hget, hk.chk false k w hok, hf, hset, Sem.run_pure]
    | some p =>
      obtain ⟨j, u⟩ := p
      rw [hq] at hf
      obtain ⟨g2, g3⟩ := mapIs_modify (v := v) h3.1 hq
      refine hend (es.modify j fun e => { e with key := k, val := concE h v }) clock ?_ (MapKept.stamped_modify h3.2 j _ (fun _ _ => rfl) fun en _ hen => ?_) ?_
      · rw [Array.toList_modify]; exact g3
      · rw [Array.getElem?_toList, hen] at g2
        exact (Option.some.inj g2).symm
      · have hset := MapKept.run_setObj_map (P := P) (.map (es.modify j fun e => { e with key := k, val := concE h v }) clock) h2
        have hkey : ((es[j]?).map (·.key)).getD k = k := by
          rw [Array.getElem?_toList] at g2
          rw [g2]
          rfl
        have hstay : (Instr.keyThatStays k k).run P w = .ok k w := by
          unfold Instr.keyThatStays
          rw [hk.bits k hok]
          rfl
        simp only [hop, execOp, ha.1, ha.2.1, ha.2.2, Instr.mapUpdate, Sem.run_bind, run_underlying hu, Result.andThen_ok, hget, hk.chk false k w hok, hf, hkey, hstay, hset, Sem.run_pure]
end
end Sx
end Go.Proofs.Ytaigdbnfhehclaa

namespace Go.Proofs.Ytaigdbnfhehclaa
namespace Sx
open Go.RowKit

section
variable {P : Program}
set_option maxRecDepth 100000 in
theorem key_conv {op : Op} {s d : TypeId} (hd : d < 10000) (h : primKey op = some (primBase + (32 * (s * 10000 + d) + 14))) : ∃ x, op = .convert s d x := by
  unfold primKey at h
  repeat' split at h
  all_goals (try (exact absurd h.symm (Option.some_ne_none _)))
  all_goals (rw [Option.some.injEq] at h)
  all_goals (try (exfalso; omega))
  rename_i s' d' x hc
  have hc' : @LT.lt Nat instLTNat d' 10000 := hc
  have hd' : @LT.lt Nat instLTNat d 10000 := hd
  have h1 : @Eq Nat s' s := by omega
  have h2 : @Eq Nat d' d := by omega
  subst h1 h2
  exact ⟨_, rfl⟩
def convC (s d : TypeId) : Con := ⟨primBase + (32 * (s * 10000 + d) + 14), [], fun b => (E.hnd 0).shift b, 2, 0, 1⟩
/-- A literal's bytes stay what they are. -/
def convR (G : List Ob) (l : List Value) (e : Env) : Prop := ∃ n len cells, l = [tok n] ∧ G[n]? = some (.row 1 len cells) ∧ 0 < len ∧ e.v 0 = tok n ∧ e.g gv = encG G
theorem freeze_frozen {w : World} {b n i x : Nat} {e : TypeId} (h : w.shape? b = some (e, n)) (hsn : Sane w b) (hz : ∀ x, x < n → w.frozen? ⟨b, x, none⟩ = false) (hx : i = b → x < n) : (w.freeze ⟨b, n, none⟩ 1).frozen? ⟨i, x, none⟩ = w.frozen? ⟨i, x, none⟩ := by
  unfold World.freeze
  rw [if_neg (by decide)]
  unfold World.frozen?
  simp only [Array.getElem?_modify]
  by_cases e1 : b = i
  · subst e1
    have hxn := hx rfl
    unfold World.shape? at h
    cases hq : w.heap[b]? with
    | none => simp [hq] at h
    | some ob =>
      cases ob with
      | cells c el f =>
        obtain ⟨lo, hi⟩ := f
        simp only [if_true, Option.map_some]
        have hzx : ∀ y, y < n → (decide (lo ≤ y) && decide (y < hi)) = false := fun y hy => by
          have := hz y hy
          unfold World.frozen? at this
          simpa [hq] using this
        have h1 := hzx x hxn
        rw [h1]
        by_cases e2 : lo = hi
        · subst e2
          simp only [beq_self_eq_true, if_true]
          simp
          omega
        · have e3 : (lo == hi) = false := by simpa using e2
          have hlh := hsn _ _ _ _ hq
          simp only [e3, Bool.false_eq_true, if_false]
          simp
          intro hlo
          by_cases hlt : lo < n
          · have h2 := hzx lo hlt
            simp at h2
            have h3 : lo ≤ x := by omega
            simp [h3] at h1
            omega
          · omega
      | _ => simp [hq] at h
  · rw [if_neg e1]
theorem conv_holds {t el : TypeId} (hu : P.underlying t = some (.slice el)) (he : P.underlying el = some (.int .u8)) (ht : t < 10000) : (convC t t).holds P (conR convR) := by
  refine turn_holds rfl (Nat.le_add_right _ _) (fun G l e _ ⟨_, _, _, _, _, _, _, hG⟩ => ⟨G, hG, ⟨[], by simp⟩⟩) ?_
  rintro o hkey a w h F G f l e hargs H ⟨n, len, cells, rfl, hn, hlen, hev, hG⟩
  obtain ⟨x, hop⟩ := key_conv ht hkey
  obtain ⟨b, o', cap, h1, h2, h4, h5, h6, h7, h8, ⟨⟨⟨sh, h9⟩, h9s⟩, h10⟩⟩ := H.ob n _ hn
  have ha := hargs h fun _ _ => rfl
  rw [hop] at ha
  simp only [Op.operands, List.map_cons, List.map_nil, concE_name, h1, List.cons.injEq, and_true] at ha
  have hcell : ∀ p, (w.freeze ⟨b, o' + cap * 1, none⟩ 1).cell? p = w.cell? p := fun p => by
    unfold World.freeze
    rw [if_neg (by decide)]
    unfold World.cell?
    simp only [Array.getElem?_modify]
    by_cases e1 : b = p.block
    · rw [if_pos e1]
      cases hq : w.heap[p.block]? with
      | none => rfl
      | some ob => cases ob <;> rfl
    · rw [if_neg e1]
  have hshape : ∀ i, (w.freeze ⟨b, o' + cap * 1, none⟩ 1).shape? i = w.shape? i := fun i => by
    unfold World.freeze
    rw [if_neg (by decide)]
    unfold World.shape?
    simp only [Array.getElem?_modify]
    by_cases e1 : b = i
    · rw [if_pos e1]
      cases hq : w.heap[i]? with
      | none => rfl
      | some ob => cases ob <;> rfl
    · rw [if_neg e1]
  have hsane : ∀ i, Sane w i → Sane (w.freeze ⟨b, o' + cap * 1, none⟩ 1) i := fun i hs c e lo hi hc => by
    unfold World.freeze at hc
    rw [if_neg (by decide)] at hc
    simp only [Array.getElem?_modify] at hc
    by_cases e1 : b = i
    · rw [if_pos e1] at hc
      cases hq : w.heap[i]? with
      | none => simp [hq] at hc
      | some ob =>
        cases ob with
        | cells c' e' f' =>
          obtain ⟨l', u'⟩ := f'
          have hlu := hs _ _ _ _ hq
          simp only [hq, Option.map_some, Option.some.injEq, Obj.cells.injEq] at hc
          obtain ⟨_, _, hc⟩ := hc
          split at hc <;> (cases hc; omega)
        | _ => simp [hq] at hc
    · rw [if_neg e1] at hc
      exact hs _ _ _ _ hc
  have hfr : Fr (f n) w (w.freeze ⟨b, o' + cap * 1, none⟩ 1) := by
    refine ⟨?_, ?_, ?_, ?_, fun i hi hno => ?_, fun i x hi _ => hcell _, fun i x hi => freeze_frozen h9 h9s h10 fun e => ?_, fun i _ => hshape i, fun i _ hs => hsane i hs, fun i hi hno => ?_⟩
    · unfold World.freeze; rw [if_neg (by decide)]
    · unfold World.freeze; rw [if_neg (by decide)]
    · unfold World.freeze; rw [if_neg (by decide)]
    · unfold World.freeze; rw [if_neg (by decide)]; simp
    · have hne : b ≠ i := fun e => hno o' ((h8 _ _).2 ⟨e.symm, Nat.le_refl _⟩)
      unfold World.freeze
      rw [if_neg (by decide)]
      simp only [Array.getElem?_modify, if_neg hne]
    · subst e
      obtain ⟨e', n', g1, g2⟩ := cell_there.1 hi
      rw [h9] at g1
      cases g1
      exact g2
    · have hne : b ≠ i := fun e => by
        refine hno (o' + cap * 1) ?_ ((h8 _ _).2 ⟨e.symm, by omega⟩)
        subst e
        cases hc : w.cell? ⟨b, o' + cap * 1, none⟩ with
        | none => rfl
        | some v =>
          obtain ⟨e', n', g1, g2⟩ := cell_there.1 (show (w.cell? ⟨b, o' + cap * 1, none⟩).isSome = true by rw [hc]; rfl)
          rw [h9] at g1
          cases g1
          omega
      unfold frozenL World.freeze
      rw [if_neg (by decide)]
      simp only [Array.getElem?_modify, if_neg hne]
  have hset := H.set hfr (i := n) (o' := .row 1 len cells) (f' := f n) hn rfl (fun _ _ _ hx => hx) (fun _ _ hx => .inl hx)
    ⟨b, o', cap, h1, h2, h4, h5, fun j hj => by rw [hcell, freeze_frozen h9 h9s h10 fun _ => by omega]; exact h6 j hj, fun j c hj => (h7 j c hj).keep (hcell _), h8, ⟨⟨sh, (hshape b).trans h9⟩, hsane b h9s⟩, fun x hx => by rw [freeze_frozen h9 h9s h10 fun _ => hx]; exact h10 x hx⟩
  have hG' : G.set n (.row 1 len cells) = G := by
    apply List.ext_getElem?
    intro i
    by_cases e : n = i
    · subst e; rw [List.getElem?_set_self (List.getElem?_eq_some_iff.1 hn).1, hn]
    · rw [List.getElem?_set_ne e]
  rw [hG'] at hset
  refine ⟨_, _, h, _, _, G, ?_, hG, .inl ⟨tok n, rfl, by simp only [E.nam, hev]; exact oneOf_eq rfl, Inv.name (List.getElem?_eq_some_iff.1 hn).1⟩, hfr.mono (fun b1 x1 _ hx => (H.foot _ _).2 ⟨n, (List.getElem?_eq_some_iff.1 hn).1, hx⟩), hset.1, hset.2, Nat.le_refl _, fun _ _ => rfl⟩
  have hmark : (markStringish ⟨b, o', none⟩).run P w = .ok () (w.freeze ⟨b, o' + cap * 1, none⟩ 1) := by
    unfold markStringish
    rw [Sem.run_bind]
    have : (shape b).run P w = .ok (w.shape? b) w := rfl
    rw [this, h9]
    rfl
  simp only [hop, execOp, ha, convert, Sem.run_bind, run_underlying hu, Result.andThen_ok, beq_self_eq_true, run_underlying he, hmark, Sem.run_pure, concE_name, h1]
/-- Bytes become a string. -/
def strOf (ns : List Int) : ByteArray := ns.foldl (fun r n => r.push (UInt8.ofNat n.toNat)) ByteArray.empty
def b2sC (s d : TypeId) : Con := ⟨primBase + (32 * (s * 10000 + d) + 14), [], fun b => (E.hnd 0).shift b, 1, 1, 0⟩
def b2sR (G : List Ob) (l : List Value) (e : Env) : Prop := ∃ v ns, l = [v] ∧ Sl G v 1 ns.length (ns.map (Value.int .u8)) ∧ e.v 0 = .string (strOf ns)
theorem b2s_holds {s d el : TypeId} (hu : P.underlying s = some (.slice el)) (he : P.underlying el = some (.int .u8)) (hv : P.underlying d = some .string) (hd : d < 10000) : (b2sC s d).holds P (conR b2sR) := by
  refine read_holds rfl (Nat.le_add_right _ _) (fun G G' l e _ hx hdn => ?_) ?_
  · obtain ⟨X, rfl, h1, h2⟩ := loc1 hx hdn
    constructor
    · rintro ⟨v, ns, rfl, g1, g2⟩
      exact ⟨v, ns, rfl, g1.append, g2⟩
    · rintro ⟨v, ns, rfl, g1, g2⟩
      exact ⟨v, ns, rfl, (Sl.loc fun n hn => h1 n (by rw [hn]; exact List.mem_singleton.2 rfl)).2 g1, g2⟩
  · rintro o hkey a w h F G f l e hargs H ⟨v, ns, rfl, hsl, hev⟩
    obtain ⟨x, hop⟩ := key_conv hd hkey
    obtain ⟨ad, cap, hvv, _, hcells, _⟩ := hsl.at_ H
    have ha := hargs h fun _ _ => rfl
    rw [hop] at ha
    simp only [Op.operands, List.map_cons, List.map_nil, hvv, List.cons.injEq, and_true] at ha
    refine ⟨.string (strOf ns), ?_, Inv.of_const fun _ => rfl, by simp only [E.nam, hev]; exact oneOf_eq rfl⟩
    have hrun : (Conv.bytesToString (.slice ad ns.length cap)).run P w = .ok (.string (strOf ns)) w := by
      cases ad with
      | none =>
        cases ns with
        | nil => rfl
        | cons n ns =>
          obtain ⟨b, o', e1, _⟩ := hcells (by simp)
          cases e1
      | some ad =>
        refine run_bytesToString w ad ns.length cap ns ?_
        by_cases h0 : 0 < ns.length
        · obtain ⟨b, o', e1, hc⟩ := hcells (by simpa using h0)
          cases e1
          have := run_loadCells_list (P := P) (w := w) ⟨b, o', none⟩ (ns.map (Value.int .u8)) (fun j u hj => by
            rw [addr_add, (hc j u hj).cell]
            rw [List.getElem?_map] at hj
            cases hq : ns[j]? with
            | none => simp [hq] at hj
            | some y => simp [hq] at hj; subst hj; rfl)
          simpa using this
        · have : ns = [] := List.length_eq_zero_iff.1 (by omega)
          subst this
          exact run_loadCells_list (P := P) (w := w) ad [] (fun j u hj => by simp at hj)
    have hconv : (convert s d (.slice ad ns.length cap)).run P w = .ok (.string (strOf ns)) w := by
      rw [run_convert_bytes_string w s d el ad ns.length cap hu he hv, hrun]
    simp only [hop, execOp, ha, Sem.run_bind, hconv, Result.andThen_ok, Sem.run_pure]
    rfl
theorem key_slice {op : Op} {t : TypeId} {lo hi : Bool} (h : primKey op = some (primBase + (32 * (4 * t + (if lo then 1 else 0) + (if hi then 2 else 0)) + 4))) : ∃ x l u, op = .slice t x l u none ∧ l.isSome = lo ∧ u.isSome = hi := by
  unfold primKey at h
  split at h
  case h_4 t' x l u =>
    rw [Option.some.injEq] at h
    cases hl : l.isSome <;> cases hu : u.isSome <;> cases lo <;> cases hi <;> simp only [hl, hu, if_true, Bool.false_eq_true, if_false] at h <;> first
      | (exfalso; omega)
      | (have h1 : @Eq Nat t' t := by omega
         subst h1
         exact ⟨_, _, _, rfl, hl, hu⟩)
  all_goals (exfalso; repeat' split at h)
  all_goals (try (exact absurd h.symm (Option.some_ne_none _)))
  all_goals (rw [Option.some.injEq] at h)
  all_goals omega
end
end Sx
end Go.Proofs.Ytaigdbnfhehclaa
