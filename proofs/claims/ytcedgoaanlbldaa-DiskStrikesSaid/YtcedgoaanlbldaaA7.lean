/- What is proved: the contract of the disk's Sync. No condition but those each law names. -/
import Derived.Test.YtcedgoaanlbldaaA6
namespace Go.Proofs.Ytcedgoaanlbldaa
open Go.RowKit Sx
set_option maxRecDepth 100000

def sycE (M : DiskM) : Int := if M.off then 9 else if strB M then 9 else 0
def sycM (M : DiskM) (n : Nat) : DiskM := if M.off then M else if strB M then strM M else syM (strM M) n
def sycG (G : List Ob) (d : Nat) (M : DiskM) : List Ob := if M.off then G else if strB M then strG G d M else syG (strG G d M) d (strM M)
def sycR (G : List Ob) (l : List Value) (e : Env) : Prop := ∃ d M, l = [tokAt d 0] ∧ IsDisk G d M ∧ e.i 0 = sycE M ∧ e.g gv = encG (sycG G d M)
def sycC : Con := mkCon 12 [] (.int .i64 (.var 0)) 2
theorem strM_flds (M : DiskM) : (strM M).la = M.la ∧ (strM M).lo = M.lo ∧ (strM M).done = M.done ∧ (strM M).m1 = M.m1 ∧ (strM M).m2 = M.m2 := by
  unfold strM
  split <;> exact ⟨rfl, rfl, rfl, rfl, rfl⟩
theorem strG_len (G : List Ob) (d : Nat) (M : DiskM) : (strG G d M).length = G.length := by
  unfold strG
  split <;> simp
theorem concE_loC (h : Nat → OneV) (bs : List Int) : concE h (loC bs) = loC bs := by
  unfold loC
  rw [concE_agg]
  congr 1
  rw [List.map_toArray]
  congr 1
  unfold u8s
  rw [List.map_map]
  exact List.map_congr_left fun _ _ => rfl
theorem sync_holds : sycC.holds Try.prog (conR sycR) := by
  refine turn_calls rfl ?_
  rintro w h F G f l e hinv H ⟨d, M, rfl, hd, he, hG⟩
  obtain ⟨bd, od, e0, p1, p2, p3⟩ := H.ob d _ hd.ob
  obtain ⟨r1, es1, cl1, e1, q1, q2, q3, q4⟩ := H.ob M.m1 _ hd.ma
  obtain ⟨r2, es2, cl2, e2, t1, t2, t3, t4⟩ := H.ob M.m2 _ hd.mo
  have hld := (List.getElem?_eq_some_iff.1 hd.ob).1
  have hl1 := (List.getElem?_eq_some_iff.1 hd.ma).1
  have hl2 := (List.getElem?_eq_some_iff.1 hd.mo).1
  have ha : ([tokAt d 0].map (concE h)).toArray = #[.pointer (some ⟨bd, od, none⟩)] := by
    show #[concE h (tokAt d 0)] = _
    rw [concE_at, e0]
    rfl
  rw [ha]
  have c2 : w.cell? ⟨bd, od + 2, none⟩ = some (.bool M.off) := (p2 2 _ rfl).1.cell
  have hres : (E.int .i64 (.var 0)).nam e lay0 = .int .i64 (sycE M) := by show Value.int .i64 (e.i 0) = _; rw [he]
  have hstep := str_step hd
  have hcall : Calls Try.prog 26 #[.pointer (some ⟨bd, od, none⟩)] w fun en w' => en = .returned (.bool (strB M)) ∧ ∃ h' F' f', Fr F w w' ∧ Objs w' h' F' (strG G d M) f' ∧ (∀ i x, F' i x → F i x ∨ w.heap.size ≤ i) ∧ ∀ n, n < G.length → h' n = h n := by
    have := calls_con str_holds (by decide) H (l := [tokAt d 0]) (e := (Env.ofL [.bool (strB M)]).ans (encG (strG G d M))) hinv ⟨d, M, rfl, hd, rfl, rfl⟩
    rw [ha] at this
    refine this.mono ?_
    rintro en w' ⟨h', F', f', G', z1, z2, z3, z4, z5, z6, z7⟩
    obtain rfl := encG_inj z2
    exact ⟨z1, h', F', f', z3, z4, z5, z7⟩
  cases ho : M.off with
  | true =>
    rw [ho] at c2
    refine (sync_off c2).mono ?_
    rintro en w' ⟨rfl, rfl⟩
    have e9 : sycE M = 9 := by unfold sycE; rw [if_pos ho]
    refine ⟨h, F, f, G, _, rfl, by rw [hres, e9], Inv.of_const fun _ => rfl, by rw [hG]; unfold sycG; rw [if_pos ho], Fr.refl _ _, H, fun _ _ => .inl, Nat.le_refl _, fun _ _ => rfl⟩
  | false =>
    rw [ho] at c2
    have ho' : ¬ M.off = true := by rw [ho]; simp
    cases hb : strB M with
    | true =>
      rw [hb] at hcall
      refine (sync_struck c2 hcall).mono ?_
      rintro en w' ⟨rfl, h', F', f', z1, z2, z3, z4⟩
      have e9 : sycE M = 9 := by unfold sycE; rw [if_neg ho', if_pos hb]
      exact ⟨h', F', f', strG G d M, _, rfl, by rw [hres, e9], Inv.of_const fun _ => rfl, by rw [hG]; unfold sycG; rw [if_neg ho', if_pos hb], z1, z2, z3, by rw [strG_len]; exact Nat.le_refl _, z4⟩
    | false =>
      rw [hb] at hcall
      obtain ⟨f1, f2, f3, f4, f5⟩ := strM_flds M
      have hb' : ¬ strB M = true := by rw [hb]; simp
      refine (sync_run (r1 := r1) (r2 := r2) (n := M.done) (l1 := (encA laC M.la).map fun p => (p.1, concE h p.2)) (lo := M.lo) c2 hcall ?_).mono ?_
      · rintro w' ⟨h', F', f', z1, z2, z3, z4⟩
        have hd' := hstep.is_
        obtain ⟨bd', od', e0', _, p2', _⟩ := z2.ob d _ hd'.ob
        have hma := hd'.ma
        rw [f1, f4] at hma
        have hmo := hd'.mo
        rw [f2, f5] at hmo
        obtain ⟨r1', es1', cl1', e1', q1', q2', _, _⟩ := z2.ob M.m1 _ hma
        obtain ⟨r2', es2', cl2', e2', t1', t2', _, _⟩ := z2.ob M.m2 _ hmo
        rw [z4 _ hld, e0] at e0'
        rw [z4 _ hl1, e1] at e1'
        rw [z4 _ hl2, e2] at e2'
        cases e0'
        cases e1'
        cases e2'
        have g0 := (p2' 0 _ rfl).1.cell
        have g1 := (p2' 1 _ rfl).1.cell
        have g4 := (p2' 4 _ rfl).1.cell
        rw [concE_name, f4, z4 _ hl1, e1] at g0
        rw [concE_name, f5, z4 _ hl2, e2] at g1
        rw [f3] at g4
        refine ⟨g0, g1, g4, (p2' 4 _ rfl).2, ⟨es1', cl1', q1', ?_, q2'.2⟩, fun p hp => ?_, ⟨es2', cl2', t1', ?_, t2'.2⟩, fun p hp => (hd.lo p hp).1, fun e => ?_⟩
        · rw [show (encA laC M.la).map (fun p => (p.1, concE h p.2)) = (encA laC M.la).map (fun p => (p.1, concE h' p.2)) from List.map_congr_left fun p hp => by rw [q3 p hp h' z4]]
          exact q2'.1
        · obtain ⟨q, hq, rfl⟩ := List.mem_map.1 hp
          exact encA_int _ _ q hq
        · have : (encA loC M.lo).map (fun p => (p.1, concE h' p.2)) = encA loC M.lo := by
            refine (List.map_congr_left fun p hp => ?_).trans (List.map_id _)
            obtain ⟨q, _, rfl⟩ := List.mem_map.1 hp
            show (_, concE h' (loC q.2)) = (_, loC q.2)
            rw [concE_loC]
          rw [← this]
          exact t2'.1
        · exact H.apart M.m1 M.m2 _ _ hd.ma hd.mo hd.ne rfl r1 0 ((q4 _ _).2 rfl) ((t4 _ _).2 e)
      · rintro en w2 ⟨rfl, w', bl, ⟨h', F', f', z1, z2, z3, z4⟩, hS⟩
        have hd' := hstep.is_
        have hS' : Synced w' w2 bd od r1 r2 (strM M).done ((encA laC (strM M).la).map fun p => (p.1, concE h' p.2)) (strM M).lo bl := by
          rw [f1, f2, f3, show (encA laC M.la).map (fun p => (p.1, concE h' p.2)) = (encA laC M.la).map (fun p => (p.1, concE h p.2)) from List.map_congr_left fun p hp => by rw [q3 p hp h' z4]]
          exact hS
        obtain ⟨h2, F2, f2', y1, y2, y3, y4⟩ := sync_objs z2 hd' (by rw [z4 _ hld]; exact e0) (by rw [f4, z4 _ hl1]; exact e1) (by rw [f5, z4 _ hl2]; exact e2) hS'
        have e9 : sycE M = 0 := by unfold sycE; rw [if_neg ho', if_neg hb']
        refine ⟨h2, F2, f2', syG (strG G d M) d (strM M), _, rfl, by rw [hres, e9], Inv.of_const fun _ => rfl, by rw [hG]; unfold sycG; rw [if_neg ho', if_neg hb'], z1.trans y1 (fun _ _ _ h => h) (fun i o hi hF => (z3 i o hF).resolve_right (by omega)), y2, fun i x hx => ?_, by rw [syG_len, strG_len]; omega, fun n hn => (y4 n (by rw [strG_len]; exact hn)).trans (z4 n hn)⟩
        rcases y3 i x hx with h | h
        · exact z3 i x h
        · exact .inr (Nat.le_trans z1.size h)
end Go.Proofs.Ytcedgoaanlbldaa
