/- What is proved: what the disk's Sync does, in a world, whatever the order of the keys; its contract. No condition but those each law names. -/
import Derived.Test.YtcedgoaanlbldaaA2
import Derived.ProofKit
import Derived.Maps.Ext
namespace Go.Proofs.Ytcedgoaanlbldaa
open Go.RowKit Sx
set_option maxRecDepth 100000

/-- What a function does in a world, out of its contract. -/
theorem calls_con {P : Program} {fn : FuncId} {res : E} {R : List Ob → List Value → Env → Prop} (hc : (mkCon fn [] res 2).holds P (conR R)) (hr : (res.noPtr && res.lt stride && decide (fn < primBase)) = true)
    {w : World} {h : Nat → OneV} {F : Foot} {G : List Ob} {f : Nat → Foot} (H : Objs w h F G f) {l : List Value} {e : Env} (hl : ∀ v ∈ l, Inv h G.length v) (hR : R G l e) :
    Calls P fn (l.map (concE h)).toArray w fun en w' => ∃ h' F' f' G', en = .returned (concE h' (res.nam e lay0)) ∧ e.g gv = encG G' ∧ Fr F w w' ∧ Objs w' h' F' G' f' ∧ (∀ i x, F' i x → F i x ∨ w.heap.size ≤ i) ∧ G.length ≤ G'.length ∧ ∀ n, n < G.length → h' n = h n := by
  simp only [Bool.and_eq_true, decide_eq_true_eq] at hr
  obtain ⟨⟨hr1, hr2⟩, hfp⟩ := hr
  have hC := hc.1.1 hfp
  have h1 := hC w (l.map (concE h)) l [] e h F (encG G) (fun h' hh => ⟨List.map_congr_left fun v hv => ?_, rfl⟩) trivial (fun _ => ⟨⟨G, f, rfl, H⟩, fun p q hz => by cases hz⟩) ⟨G, l, rfl, hR⟩
  · refine h1.mono ?_
    rintro en w' ⟨h', F', hpost, hat⟩
    obtain ⟨g1, ⟨G', f', g2, g3⟩, g4, g5, g6⟩ := hpost
    have ha := hat ((Env.ofL []).from_ 0 e) 0 (Env.from_at _ _ _)
    refine ⟨h', F', f', G', ?_, g2, g1.mono fun _ _ _ hx => hx.elim (fun ⟨p, q, hz, _⟩ => by cases hz) id, g3, g4, ?_, fun n hn => g6 n (by show n < cntG (encG G); rwa [cntG_enc])⟩
    · have hr3 := ha.1 ⟨fun _ => (0, 0), h'⟩ (fun n hn => rfl)
      rw [hr3]
      have e1 := E.shift_val (Env.from_at (Env.ofL []) 0 e) (ι := ⟨fun _ => (0, 0), h'⟩) (ι' := ⟨fun _ => (0, 0), h'⟩) rfl res hr2 (E.ptr_adr hr1)
      show Ending.returned ((res.shift 0).val _ _) = _
      rw [e1, E.val_conc e _ lay0 hr1]
    · have : cntG (encG G) ≤ cntG (e.g gv) := g5
      rwa [g2, cntG_enc, cntG_enc] at this
  · rcases hh with rfl | ⟨_, hh⟩
    · rfl
    · exact (hl v hv h' fun n hn => hh n (by show n < cntG (encG G); rwa [cntG_enc])).symm
end Go.Proofs.Ytcedgoaanlbldaa
