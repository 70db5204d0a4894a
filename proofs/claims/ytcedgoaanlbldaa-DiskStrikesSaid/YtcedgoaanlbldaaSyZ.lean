/-
  What is proved: the contract of append on objects; no program in sight. Condition: the types are as said.
-/
import Derived.Test.YtcedgoaanlbldaaSyX
namespace Go.Proofs.Ytcedgoaanlbldaa
namespace Sx
open Go.RowKit

/-- A slice that is appended to. -/
def Dst (G : List Ob) (v : Value) (s len : Nat) (xs : List Value) : Prop := (v = .slice none 0 0 ∧ len = 0 ∧ xs = []) ∨ ∃ d, v = tok d ∧ G[d]? = some (.row s len xs)
/-- A slice is given up. -/
def killV (G : List Ob) (v : Value) : List Ob := match v with
  | .pointer (some a) => G.set a.block .dead
  | _ => G
theorem killV_tok (G : List Ob) (d : Nat) : killV G (tok d) = G.set d .dead := rfl
theorem killV_nil (G : List Ob) : killV G (.slice none 0 0) = G := rfl
theorem killV_length (G : List Ob) (v : Value) : (killV G v).length = G.length := by unfold killV; split <;> simp
/-- A slice is given up, its cells are written, and new blocks come. -/
theorem Objs.kill {w w' : World} {h : Nat → OneV} {F : Foot} {G : List Ob} {f : Nat → Foot} (H : Objs w h F G f) {v : Value} {s len : Nat} {xs : List Value} (hv : Dst G v s len xs) {S : Foot} (hS : Fr S w w') (hsub : ∀ b x, b < w.heap.size → S b x → ∃ d, v = tok d ∧ f d b x) :
    ∃ F1 f1, Objs w' h F1 (killV G v) f1 ∧ (∀ b x, F1 b x → F b x ∨ w.heap.size ≤ b) ∧ ∀ k, k < G.length → ∀ b x, f1 k b x → f k b x ∧ v ≠ tok k := by
  rcases hv with ⟨rfl, _, _⟩ | ⟨d, rfl, hd⟩
  · refine ⟨F, f, H.keep hS fun b x hF hs => ?_, fun b x hF => .inl hF, fun k _ b x hf => ⟨hf, fun e => by cases e⟩⟩
    obtain ⟨d, e, _⟩ := hsub b x (H.belowF hF) hs
    cases e
  · obtain ⟨g1, g2⟩ := H.set hS (i := d) (o' := .dead) (f' := fun _ _ => False) hd rfl (fun b x hb hs => by
      obtain ⟨d', e, hf⟩ := hsub b x hb hs
      have : d' = d := by simpa [tok] using e.symm
      rw [← this]; exact hf) (fun _ _ h => h.elim) (fun _ _ h => h)
    refine ⟨_, _, g1, g2, fun k hk b x hf => ?_⟩
    by_cases e : k = d
    · simp only [if_pos e] at hf
    · simp only [if_neg e] at hf
      exact ⟨hf, fun e' => e (by simpa [tok] using e'.symm)⟩
section
variable {P : Program}
def appC (t : TypeId) : Con := ⟨primBase + (32 * t + 18), [], fun b => (E.hnd 0).shift b, 2, 0, 2⟩
def appR (s by_ : Nat) (G : List Ob) (l : List Value) (e : Env) : Prop := ∃ dv sv len n xs ys, l = [dv, sv] ∧ Sl G sv s n ys ∧ len + n ≤ 9223372036854775807 ∧ (len + n) * by_ ≤ 140737488355328 ∧
  ((n = 0 ∧ Sl G dv s len xs ∧ e.v 0 = dv ∧ e.g gv = encG G) ∨ (0 < n ∧ Dst G dv s len xs ∧ e.v 0 = tok G.length ∧ ∃ fz, e.g gv = encG (killV G dv ++ [mkRow fz s (len + n) (xs ++ ys)])))
theorem Dst.one {G : List Ob} {v : Value} {s len : Nat} {xs : List Value} (h : Dst G v s len xs) : v.oneCell' = true := by
  rcases h with ⟨rfl, _, _⟩ | ⟨d, rfl, _⟩ <;> rfl
/-- What append does, whatever is appended. -/
theorem app_core {t tx el : TypeId} {i : TypeInfo} {z : Value} (hs0 : 0 < i.size) (hzs : z.cells.size = i.size) (hz1 : ∀ c ∈ z.cells.toList, c.oneCell' = true)
    {o : Oper} {a : Act} {w : World} {h : Nat → OneV} {F : Foot} {G : List Ob} {f : Nat → Foot} {e : Env} (H : Objs w h F G f) {dv x : Value} {len n : Nat} {xs ys : List Value} (h63 : len + n ≤ 9223372036854775807)
    (hyl : ys.length = n * i.size) (hycell : ∀ (j : Nat) cy, ys[j]? = some cy → cy.oneCell' = true ∧ Inv h G.length cy) (hdv : Inv h G.length dv)
    (hexec : ∀ r w', (Builtin.append_ #[t, tx] o.type #[concE h dv, x]).run P w = .ok r w' → (execOp a.eval o).run P w = .ok (.value r) w')
    (hno : ∀ ba dc, n = 0 → len ≤ dc → (Builtin.append_ #[t, tx] o.type #[.slice ba len dc, x]).run P w = .ok (.slice ba len dc) w)
    (hroomR : ∀ b o' dc, len + n ≤ dc → (∀ j, j < (ys.map (concE h)).length → (w.cell? ⟨b, o' + len * i.size + j, none⟩).isSome = true) → (∀ j, j < (ys.map (concE h)).length → w.frozen? ⟨b, o' + len * i.size + j, none⟩ = false) →
      (Builtin.append_ #[t, tx] o.type #[.slice (some ⟨b, o', none⟩) len dc, x]).run P w = .ok (.slice (some ⟨b, o', none⟩) (len + n) dc) (w.setCells b (o' + len * i.size) (ys.map (concE h))))
    (hgrowR : ∀ ba dc, n ≠ 0 → (Builtin.firstCells i.size len (.slice ba len dc)).run P w.drew = .ok (xs.map (concE h)).toArray w.drew → dc < len + n →
      (Builtin.append_ #[t, tx] o.type #[.slice ba len dc, x]).run P w = .ok (.slice (some ⟨w.heap.size, 0, none⟩) (len + n) (grownCap w (len + n) dc el)) (w.drew.alloc (.cells ((xs.map (concE h) ++ ys.map (concE h)).toArray ++ Builtin.zeroCells z.cells (grownCap w (len + n) dc el - (len + n))) el)))
    (hres : (n = 0 ∧ Sl G dv i.size len xs ∧ e.v 0 = dv ∧ e.g gv = encG G) ∨ (0 < n ∧ Dst G dv i.size len xs ∧ e.v 0 = tok G.length ∧ ∃ fz, e.g gv = encG (killV G dv ++ [mkRow fz i.size (len + n) (xs ++ ys)]))) :
    ∃ x w' h' F' f' G', (execOp a.eval o).run P w = .ok x w' ∧ e.g gv = encG G' ∧ ((∃ v, x = .value (concE h' v) ∧ (E.hnd 0).nam e lay0 = v ∧ Inv h' G'.length v) ∨ (x = .skip ∧ E.hnd 0 = .lit undef)) ∧
      Fr F w w' ∧ Objs w' h' F' G' f' ∧ (∀ i x, F' i x → F i x ∨ w.heap.size ≤ i) ∧ G.length ≤ G'.length ∧ ∀ n, n < G.length → h' n = h n := by
  by_cases h0 : n = 0
  · -- nothing comes
    subst h0
    rcases hres with ⟨_, hd, he, hG⟩ | ⟨hn, _⟩
    rotate_left
    · omega
    obtain ⟨ba, dc, e1, e2, _⟩ := hd.at_ H
    have hrun := hno ba dc rfl e2
    rw [← e1] at hrun
    exact ⟨_, w, h, F, f, G, hexec _ _ hrun, hG, .inl ⟨dv, rfl, by simp only [E.nam, he]; exact oneOf_eq hd.one, hdv⟩, Fr.refl _ _, H, fun _ _ h => .inl h, Nat.le_refl _, fun _ _ => rfl⟩
  · rcases hres with ⟨hn, _⟩ | ⟨hn, hd, he, fz, hG⟩
    · exact absurd hn h0
    have hkl : (killV G dv).length = G.length := killV_length G dv
    have hres' : (E.hnd 0).nam e lay0 = tok G.length := by simp only [E.nam, he]; exact oneOf_eq rfl
    -- the old cells
    obtain ⟨ba, dc, e1, e2, hold, hdc⟩ : ∃ ba dc, concE h dv = .slice ba len dc ∧ len ≤ dc ∧ (∀ w' : World, (∀ p, w'.cell? p = w.cell? p) → (Builtin.firstCells i.size len (.slice ba len dc)).run P w' = .ok (xs.map (concE h)).toArray w') ∧
        (ba = none ∧ dc = 0 ∧ len = 0 ∧ xs = [] ∧ (∀ d, dv ≠ tok d) ∨ ∃ d b o', dv = tok d ∧ G[d]? = some (.row i.size len xs) ∧ ba = some ⟨b, o', none⟩ ∧ dc ≤ maxLen ∧
          (∀ j, j < dc * i.size → (∃ u, w.cell? ⟨b, o' + j, none⟩ = some u ∧ u.oneCell' = true) ∧ w.frozen? ⟨b, o' + j, none⟩ = false) ∧ (∀ (j : Nat) c, xs[j]? = some c → CellN w h G.length b (o' + j) c) ∧ xs.length = len * i.size ∧ (∀ y x, f d y x ↔ y = b ∧ o' ≤ x) ∧ Tail w b (o' + dc * i.size)) := by
      rcases hd with ⟨rfl, rfl, rfl⟩ | ⟨d, rfl, hd⟩
      · exact ⟨none, 0, rfl, Nat.le_refl _, fun w' _ => by simp [Builtin.firstCells], .inl ⟨rfl, rfl, rfl, rfl, fun d e => by cases e⟩⟩
      · obtain ⟨b, o', cap, h1, h2, h4, h5, h6, h7, h8, h9⟩ := H.ob d _ hd
        refine ⟨_, cap, by rw [concE_name, h1], h2, fun w' hw' => ?_, .inr ⟨d, b, o', rfl, hd, rfl, h4, h6, h7, h5, h8, h9⟩⟩
        exact run_firstCells_some (P := P) w' i.size len _ len cap _ (by simpa using h5) (fun j u hj => by
          rw [List.getElem?_map] at hj
          cases hq : xs[j]? with
          | none => simp [hq] at hj
          | some c =>
            simp only [hq, Option.map_some, Option.some.injEq] at hj
            subst hj
            rw [addr_add, hw']
            exact (h7 j c hq).cell)
    have hxl : xs.length = len * i.size := by
      rcases hdc with ⟨_, _, rfl, rfl, _⟩ | ⟨d, b, o', _, _, _, _, _, _, hx, _⟩
      · simp
      · exact hx
    have hxcell : ∀ (j : Nat) c, xs[j]? = some c → c.oneCell' = true ∧ Inv h G.length c := fun j c hj => by
      rcases hdc with ⟨_, _, rfl, rfl, _⟩ | ⟨d, b, o', _, _, _, _, _, hx, _, _⟩
      · simp at hj
      · exact ⟨(hx j c hj).one, (hx j c hj).inv⟩
    have hall : ∀ (j : Nat) c, (xs ++ ys)[j]? = some c → c.oneCell' = true ∧ Inv h G.length c := fun j c hj => by
      rw [List.getElem?_append] at hj
      split at hj
      · exact hxcell j c hj
      · exact hycell _ c hj
    have hlen : (xs ++ ys).length = (len + n) * i.size := by rw [List.length_append, hxl, hyl, Nat.add_mul]
    by_cases hroom : len + n ≤ dc
    · -- there is room
      rcases hdc with ⟨_, rfl, _⟩ | ⟨d, b, o', hdt, hdG, rfl, hm, h6, h7, _, h8, h9⟩
      · omega
      have hle2 : (len + n) * i.size ≤ dc * i.size := Nat.mul_le_mul_right _ hroom
      have hspare : ∀ j, j < (ys.map (concE h)).length → (w.cell? ⟨b, o' + len * i.size + j, none⟩).isSome = true ∧ w.frozen? ⟨b, o' + len * i.size + j, none⟩ = false ∧ f d b (o' + len * i.size + j) := fun j hj => by
        rw [List.length_map, hyl] at hj
        rw [Nat.add_mul] at hle2
        have := h6 (len * i.size + j) (by omega)
        rw [← Nat.add_assoc] at this
        exact ⟨by obtain ⟨⟨u, hu', _⟩, _⟩ := this; rw [hu']; rfl, this.2, (h8 _ _).2 ⟨rfl, by omega⟩⟩
      have hrun := hroomR b o' dc hroom (fun j hj => (hspare j hj).1) (fun j hj => (hspare j hj).2.1)
      rw [← e1] at hrun
      have hfr := Fr.setCells w b (o' + len * i.size) (ys.map (concE h))
      obtain ⟨F1, f1, k1, k2, k3⟩ := H.kill (w' := w.setCells b (o' + len * i.size) (ys.map (concE h))) (.inr ⟨d, hdt, hdG⟩) hfr (fun b1 x1 _ hx => by
        obtain ⟨rfl, hx1, hx2⟩ := hx
        have := (hspare (x1 - (o' + len * i.size)) (by omega)).2.2
        rw [show o' + len * i.size + (x1 - (o' + len * i.size)) = x1 by omega] at this
        exact ⟨d, hdt, this⟩)
      have hdl := (List.getElem?_eq_some_iff.1 hdG).1
      have hcell : ∀ (j : Nat) c, (xs ++ ys)[j]? = some c → (w.setCells b (o' + len * i.size) (ys.map (concE h))).cell? ⟨b, o' + j, none⟩ = some (concE h c) := fun j c hj => by
        rw [List.getElem?_append] at hj
        split at hj
        · rename_i hjl
          rw [World.cell?_setCells_out _ _ _ _ _ (fun _ _ => .inl (by show o' + j < o' + len * i.size; omega))]
          exact (h7 j c hj).cell
        · rename_i hjl
          have hjy := (List.getElem?_eq_some_iff.1 hj).1
          have := World.cell?_setCells_in b (ys.map (concE h)) (o' + len * i.size) w (fun k hk => (hspare k hk).1) (j - xs.length) (by simpa using hjy)
          rw [show o' + len * i.size + (j - xs.length) = o' + j by omega] at this
          rw [this, List.getElem_map]
          rw [List.getElem?_eq_getElem hjy] at hj
          cases hj
          rfl
      have hcn : ∀ (j : Nat) c, (xs ++ ys)[j]? = some c → CellN (w.setCells b (o' + len * i.size) (ys.map (concE h))) (hPush h G.length (slV b o' (len + n) dc)) (G.length + 1) b (o' + j) c := fun j c hj =>
        CellN.push (hall j c hj).2 (hall j c hj).1 (hcell j c hj)
      have hpush := k1.push (slV b o' (len + n) dc) (o' := mkRow fz i.size (len + n) (xs ++ ys)) (f' := fun y x => y = b ∧ o' ≤ x ∧ (fz = true → x < o' + (len + n) * i.size)) (fun y x hx k hk hf => by
        obtain ⟨hf1, hf2⟩ := k3 k (by omega) y x hf
        have hfd : f d y x := (h8 _ _).2 ⟨hx.1, hx.2.1⟩
        have hne : d ≠ k := fun e => hf2 (by rw [← e]; exact hdt)
        exact H.apart d k _ _ hdG (List.getElem?_eq_getElem (by omega)) hne rfl y x hfd hf1) (by
        rw [hkl]
        cases fz with
        | true => exact ⟨b, o', none, dc, rfl, hroom, hlen, fun _ => rfl, hcn, fun y x => by rw [hlen]; exact ⟨fun ⟨a, b, c⟩ => ⟨a, b, c rfl⟩, fun ⟨a, b, c⟩ => ⟨a, b, fun _ => c⟩⟩⟩
        | false =>
          refine ⟨b, o', dc, rfl, hroom, hm, hlen, fun j hj => ?_, hcn, fun y x => ⟨fun ⟨a, b, _⟩ => ⟨a, b⟩, fun ⟨a, b⟩ => ⟨a, b, fun h => by cases h⟩⟩, h9.keep hfr⟩
          rw [World.frozen?_setCells]
          refine ⟨?_, (h6 j hj).2⟩
          by_cases hjl : j < (xs ++ ys).length
          · have hc1 := hcell j _ (List.getElem?_eq_getElem hjl)
            exact ⟨_, hc1, concE_one (hall j _ (List.getElem?_eq_getElem hjl)).1⟩
          · rw [World.cell?_setCells_out _ _ _ _ _ (fun _ _ => .inr (by show o' + len * i.size + _ ≤ o' + j; rw [List.length_map, hyl]; rw [hlen, Nat.add_mul] at hjl; omega))]
            exact (h6 j hj).1)
      rw [hkl] at hpush
      refine ⟨_, _, hPush h G.length (slV b o' (len + n) dc), _, _, _, hexec _ _ hrun, hG, .inl ⟨tok G.length, ?_, hres', Inv.name (by rw [List.length_append, hkl]; simp)⟩, hfr.mono (fun b1 x1 _ hx => ?_), hpush, fun y x hx => ?_, by rw [List.length_append, hkl]; omega, fun k hk => hPush_old hk⟩
      · rw [concE_name, hPush_new]; rfl
      · obtain ⟨rfl, hx1, hx2⟩ := hx
        have := (hspare (x1 - (o' + len * i.size)) (by omega)).2.2
        rw [show o' + len * i.size + (x1 - (o' + len * i.size)) = x1 by omega] at this
        exact (H.foot _ _).2 ⟨d, hdl, this⟩
      · rcases hx with hx | hx
        · exact k2 y x hx
        · refine .inl ((H.foot _ _).2 ⟨d, hdl, (h8 _ _).2 ⟨hx.1, hx.2.1⟩⟩)
    · -- there is none
      have hold' := hold w.drew fun p => rfl
      have hrun := hgrowR ba dc h0 hold' (by omega)
      rw [← e1] at hrun
      have hge := grownCap_ge w (len + n) dc el
      have hcm := grownCap_le_maxLen w (len + n) dc el (by unfold maxLen; omega)
      have hrs : ((xs.map (concE h) ++ ys.map (concE h)).toArray ++ Builtin.zeroCells z.cells (grownCap w (len + n) dc el - (len + n))).size = grownCap w (len + n) dc el * i.size := by
        rw [Array.size_append, List.size_toArray, ← List.map_append, List.length_map, hlen, size_zeroCells, hzs, ← Nat.add_mul]
        congr 1
        omega
      have hkill := H.kill (v := dv) (w' := w.drew.alloc (.cells ((xs.map (concE h) ++ ys.map (concE h)).toArray ++ Builtin.zeroCells z.cells (grownCap w (len + n) dc el - (len + n))) el)) (S := fun _ _ => False) hd ((Fr.drew w).trans (Fr.alloc _ w.drew _) (fun _ _ _ h => h) (fun _ _ _ h => h)) (fun _ _ _ h => h.elim)
      obtain ⟨F1, f1, k1, k2, k3⟩ := hkill
      have hh := holds_row_new (w := w.drew) (h := h) (n := G.length) (s := i.size) (len := len + n) (cap := grownCap w (len + n) dc el) (cells := xs ++ ys) (t := el) fz hlen hrs hge hcm (fun j c hj => by
        refine ⟨?_, hall j c hj⟩
        have hjl := (List.getElem?_eq_some_iff.1 hj).1
        rw [Array.getElem?_append_left (by simpa using hjl), List.getElem?_toArray, ← List.map_append, List.getElem?_map, hj]
        rfl) (fun u hu' => by
        rw [Array.mem_append] at hu'
        rcases hu' with hu' | hu'
        · rw [List.mem_toArray, ← List.map_append] at hu'
          obtain ⟨c, hc', rfl⟩ := List.mem_map.1 hu'
          obtain ⟨j, hj⟩ := List.getElem?_of_mem hc'
          exact concE_one (hall j c hj).1
        · unfold Builtin.zeroCells at hu'
          obtain ⟨j, hj, rfl⟩ := Array.mem_map.1 hu'
          have hlt : j % z.cells.size < z.cells.size := Nat.mod_lt _ (by omega)
          rw [getElem!_pos z.cells _ hlt]
          exact hz1 _ (by rw [Array.mem_toList_iff]; exact Array.getElem_mem hlt))
      have hpush := k1.push (slV w.heap.size 0 (len + n) (grownCap w (len + n) dc el)) (o' := mkRow fz i.size (len + n) (xs ++ ys)) (f' := fun y x => y = w.heap.size ∧ (fz = true → x < (len + n) * i.size)) (fun y x hx k hk hf => by
        obtain ⟨hf1, hf2⟩ := k3 k (by omega) y x hf
        have := H.below (by omega) hf1
        omega) (by rw [hkl]; exact hh)
      rw [hkl] at hpush
      refine ⟨_, _, hPush h G.length (slV w.heap.size 0 (len + n) (grownCap w (len + n) dc el)), _, _, _, hexec _ _ hrun, hG, .inl ⟨tok G.length, ?_, hres', Inv.name (by rw [List.length_append, hkl]; simp)⟩, (Fr.drew w).trans (Fr.alloc F w.drew _) (fun _ _ _ h => h) (fun _ _ _ h => h), hpush, fun y x hx => ?_, by rw [List.length_append, hkl]; omega, fun k hk => hPush_old hk⟩
      · rw [concE_name, hPush_new]; rfl
      · rcases hx with hx | hx
        · exact k2 y x hx
        · exact .inr (by omega)
theorem app_holds {t el : TypeId} {i : TypeInfo} {z : Value} {s : Nat} (hu : P.underlying t = some (.slice el)) (hi : P.info? el = some i) (hs : i.size = s) (hs0 : 0 < s) (hz : i.zero = some z) (hzs : z.cells.size = s) (hz1 : ∀ c ∈ z.cells.toList, c.oneCell' = true) :
    (appC t).holds P (conR (appR s i.bytes)) := by
  refine turn_holds rfl (Nat.le_add_right _ _) (fun G l e _ hR => ?_) ?_
  · obtain ⟨dv, sv, len, n, xs, ys, rfl, _, _, _, h⟩ := hR
    rcases h with ⟨_, _, _, h⟩ | ⟨_, hd, _, fz, h⟩
    · exact ⟨G, h, by unfold extG; rw [if_neg (by decide), if_pos rfl]; exact ⟨Nat.le_refl _, fun _ _ h _ => h⟩⟩
    · refine ⟨_, h, ?_⟩
      unfold extG
      rw [if_neg (by decide), if_pos rfl]
      refine ⟨by rw [List.length_append, killV_length]; omega, fun m o ho hf => ?_⟩
      have hml := (List.getElem?_eq_some_iff.1 ho).1
      rw [List.getElem?_append_left (by rw [killV_length]; exact hml)]
      rcases hd with ⟨rfl, _, _⟩ | ⟨d, rfl, hd⟩
      · exact ho
      · rw [killV_tok, List.getElem?_set_ne]
        · exact ho
        · rintro rfl
          rw [hd] at ho
          cases ho
          cases hf
  · rintro o hkey a w h F G f l e hargs H ⟨dv, sv, len, n, xs, ys, rfl, hsl, h63, hby, hres⟩
    obtain ⟨c, hc, hcal, hty⟩ := key_append hkey
    have ha := hargs h fun _ _ => rfl
    have hinv := inv_args hargs
    rw [hc] at ha
    simp only [Op.operands, Call.operands, hcal, Array.empty_append, List.map_cons, List.map_nil] at ha
    have hargsA : c.args.map a.eval = #[concE h dv, concE h sv] := by
      rw [← Array.toList_inj]; simpa using ha
    have hexec : ∀ r w', (Builtin.append_ #[t, t] o.type #[concE h dv, concE h sv]).run P w = .ok r w' → (execOp a.eval o).run P w = .ok (.value r) w' := fun r w' hr => by
      simp only [hc, execOp, resolve, hcal, hargsA, Sem.run_bind, Sem.run_pure, Result.andThen_ok, invoke, builtin, hty, hr]
    obtain ⟨sa, scap, hsv, hsle, hscells, hsinv⟩ := hsl.at_ H
    have hyl := hsl.length
    subst hs
    -- what is appended
    have hsrc : Src P i.size t (concE h sv) n (ys.map (concE h)) w := by
      rw [hsv]
      by_cases h0 : 0 < n
      · have hyp : 0 < ys.length := by rw [hyl]; exact Nat.mul_pos h0 hs0
        obtain ⟨b2, o2, rfl, hcc⟩ := hscells hyp
        refine Src.ofSlice w hu _ n scap _ (by simpa using hyl) (fun j u hj => ?_) (fun u hu' => ?_)
        · rw [List.getElem?_map] at hj
          cases hq : ys[j]? with
          | none => simp [hq] at hj
          | some cy =>
            simp only [hq, Option.map_some, Option.some.injEq] at hj
            subst hj
            rw [addr_add]
            exact (hcc j cy hq).cell
        · obtain ⟨cy, hcy, rfl⟩ := List.mem_map.1 hu'
          obtain ⟨j, hj⟩ := List.getElem?_of_mem hcy
          exact concE_one (hcc j cy hj).one
      · obtain rfl : n = 0 := by omega
        have : ys = [] := List.length_eq_zero_iff.1 (by rw [hyl]; simp)
        subst this
        refine ⟨.inl ⟨el, hu⟩, fun _ => rfl, ?_, ?_, by simp, fun u hu' => by simp at hu'⟩
        · cases sa <;> simp [Builtin.firstCells, loadCells]
          exact run_loadCells_list (P := P) (w := w) _ [] (fun j v hv => by simp at hv)
        · cases sa <;> simp [Builtin.firstCells, loadCells]
          exact run_loadCells_list (P := P) (w := w.drew) _ [] (fun j v hv => by simp at hv)
    have hycell : ∀ (j : Nat) cy, ys[j]? = some cy → cy.oneCell' = true ∧ Inv h G.length cy := fun j cy hj => by
      have hyp : 0 < ys.length := by have := (List.getElem?_eq_some_iff.1 hj).1; omega
      obtain ⟨b2, o2, _, hcc⟩ := hscells hyp
      exact ⟨(hcc j cy hj).one, (hcc j cy hj).inv⟩
    have hdv : Inv h G.length dv := hinv dv (by simp)
    exact app_core hs0 hzs hz1 H h63 hyl hycell hdv hexec
      (fun ba dc h0 e2 => by
        have hys : ys.map (concE h) = [] := by simpa [h0] using hsrc.newsLen
        rw [h0, hys] at hsrc
        exact run_append_nothing (P := P) w t t o.type el i hu hi ba len dc e2 (concE h sv) hsrc)
      (fun b o' dc hroom hc hf => run_append_room_src (P := P) w t t o.type el i hu hi b o' len dc (concE h sv) n _ hsrc hroom hc hf)
      (fun ba dc _ hold hlt => run_append_grow_src (P := P) w t t o.type el i z hu hi hz ba len dc _ hold (concE h sv) n _ hsrc hlt (by omega) (growslice_fits (by omega) hby)) hres
end
end Sx
end Go.Proofs.Ytcedgoaanlbldaa
