/-
  EV, PART F: the operations that read, lay and write memory (append and copy: part G).
-/
import Derived.Test.YtelpkdjibjddlaaEvE
set_option linter.unusedSimpArgs false
set_option linter.unusedVariables false
namespace Go.Ev
open Go Go.RowKit

/-- What an operation comes to: a value, a world, a map of names. -/
def Came (φ : Phi) (B : Base) (s : St) (w : World) (v : Value) (s' : St) (r : Result Value) : Prop :=
  ∃ φ' w' v', r = .ok v' w' ∧ s.next ≤ s'.next ∧ Grows B φ φ' s.next s'.next ∧ Rel φ' B s'.t.get w' ∧ VRel φ' v v' ∧ Keeps φ s.t.get w w'

theorem Came.same {φ : Phi} {B : Base} {s : St} {w : World} {v v' : Value} {r : Result Value} (hR : Rel φ B s.t.get w) (h : r = .ok v' w) (hv : VRel φ v v') : Came φ B s w v s r :=
  ⟨φ, w, v', h, Nat.le_refl _, .refl _ _ _, hR, hv, .refl _ _ _⟩

theorem lift_some {α : Type} {o : Option α} {s s' : St} {a : α} (h : lift o s = some (a, s')) : o = some a ∧ s' = s := by
  unfold lift at h
  cases o with
  | none => cases h
  | some b => simp at h; exact ⟨by rw [h.1], h.2.symm⟩
theorem bnd_some {α β : Type} {m : M α} {f : α → M β} {s s' : St} {b : β} (h : bnd m f s = some (b, s')) : ∃ a s1, m s = some (a, s1) ∧ f a s1 = some (b, s') := by
  unfold bnd at h
  cases hm : m s with
  | none => simp [hm] at h
  | some p => obtain ⟨a, s1⟩ := p; simp [hm] at h; exact ⟨a, s1, rfl, h⟩
theorem ret_some {α : Type} {a b : α} {s s' : St} (h : ret a s = some (b, s')) : b = a ∧ s' = s := by
  simp [ret] at h; exact ⟨h.1.symm, h.2.symm⟩
theorem rowOf_some {N : Nat} {s s' : St} {r : List Value × TypeId × Nat} (h : rowOf N s = some (r, s')) : s.t.get N = some (.cells r.1 r.2.1 r.2.2) ∧ s' = s := by
  unfold rowOf at h
  split at h
  · rename_i vs e hi hN
    simp at h
    obtain ⟨h1, h2⟩ := h
    subst h1
    exact ⟨hN, h2.symm⟩
  · cases h
theorem newB_some {b : Blk} {s s' : St} {N : Nat} (h : newB b s = some (N, s')) : N = s.next ∧ s' = { s with t := s.t.set s.next (some b), next := s.next + 1 } := by
  simp [newB] at h; exact ⟨h.1.symm, h.2.symm⟩
theorem setB_some {N : Nat} {b : Blk} {s s' : St} {u : Unit} (h : setB N b s = some (u, s')) : (∃ b0, s.t.get N = some b0) ∧ s' = { s with t := s.t.set N (some b), mods := N :: s.mods } := by
  unfold setB at h
  cases hN : s.t.get N with
  | none => simp [hN] at h
  | some b0 => simp [hN] at h; exact ⟨⟨b0, rfl⟩, h.symm⟩
theorem delB_some {N : Nat} {s s' : St} {u : Unit} (h : delB N s = some (u, s')) : (∃ b0, s.t.get N = some b0) ∧ s' = { s with t := s.t.set N none, mods := N :: s.mods } := by
  unfold delB at h
  cases hN : s.t.get N with
  | none => simp [hN] at h
  | some b0 => simp [hN] at h; exact ⟨⟨b0, rfl⟩, h.symm⟩
theorem addr_some {v v' : Value} {s s' : St} {p : Nat × Nat} (h : addr v s = some (p, s')) : v = .pointer (some ⟨p.1, p.2, none⟩) ∧ s' = s := by
  unfold addr at h
  split at h
  · obtain ⟨h1, h2⟩ := ret_some h; subst h1; exact ⟨rfl, h2⟩
  · cases h

section
variable {T : Tab} {P : Program} (hT : T.Ok P)
include hT

theorem sim_loadVar {φ : Phi} {B : Base} {s s' : St} {w : World} (hR : Rel φ B s.t.get w) {t : TypeId} {N o : Nat} {v : Value} (h : loadVar T t N o s = some (v, s')) :
    s' = s ∧ ∃ L v', φ N = some L ∧ (Go.loadVar t ⟨L.blk, L.off + o, none⟩).run P w = .ok v' w ∧ VRel φ v v' := by
  unfold loadVar at h
  obtain ⟨⟨vs, e, hi⟩, s1, h1, h2⟩ := bnd_some h
  obtain ⟨hN, rfl⟩ := rowOf_some h1
  simp only at h2 hN
  cases hd : T.und t with
  | none => simp [hd, fail] at h2
  | some d =>
    simp only [hd] at h2
    by_cases ha : isAggD d = true
    · rw [if_pos ha] at h2
      cases hn : T.size t with
      | none => simp [hn, fail] at h2
      | some n =>
        simp only [hn] at h2
        cases hs : slice vs o n with
        | none => simp [hs, fail] at h2
        | some cs =>
          simp only [hs] at h2
          obtain ⟨rfl, rfl⟩ := ret_some h2
          obtain ⟨L, r', hL, hr, hrun⟩ := hR.cells hN (P := P) hs
          exact ⟨rfl, L, .agg ⟨r'⟩, hL, by simp [Go.loadVar, run_isAgg hT hd, ha, run_size hT hn, hrun], .agg _ _ hr.1 hr.2⟩
    · rw [if_neg ha] at h2
      have ha' : isAggD d = false := by simpa using ha
      cases hv : vs[o]? with
      | none => simp [hv, fail] at h2
      | some x =>
        simp only [hv] at h2
        obtain ⟨rfl, rfl⟩ := ret_some h2
        obtain ⟨L, hL, hc⟩ := hR.cell hN
        obtain ⟨v', hc', hv'⟩ := hc o _ hv
        exact ⟨rfl, L, v', hL, by simp [Go.loadVar, run_isAgg hT hd, ha', hc'], hv'⟩

theorem sim_load {φ : Phi} {B : Base} {s s' : St} {w : World} (hR : Rel φ B s.t.get w) {t : TypeId} {a a' v : Value} (ha : VRel φ a a')
    (h : bnd (addr a) (fun p => loadVar T t p.1 p.2) s = some (v, s')) : s' = s ∧ ∃ v', (Instr.loadAt t a').run P w = .ok v' w ∧ VRel φ v v' := by
  obtain ⟨⟨N, o⟩, s1, h1, h2⟩ := bnd_some h
  obtain ⟨rfl, rfl⟩ := addr_some (v' := a') h1
  cases ha with
  | ptr hL =>
    obtain ⟨h3, L, v', hL', hrun, hv⟩ := sim_loadVar hT hR h2
    rw [hL] at hL'; cases hL'
    exact ⟨h3, v', by simpa [Instr.loadAt, Instr.sureAddr] using hrun, hv⟩

/-- A store of cells; 'o' counted in the name's row. -/
theorem sim_storeCells {φ : Phi} {B : Base} {s s' : St} {w : World} (hR : Rel φ B s.t.get w) {N o : Nat} {vs vs' : List Value} {u : Unit} (hv : LRel φ vs vs')
    (h : storeCells N o vs s = some (u, s')) : s'.next = s.next ∧ (vs = [] ∧ s' = s ∨ vs ≠ [] ∧ ∃ L w', φ N = some L ∧ (Go.storeCells ⟨L.blk, L.off + o, none⟩ vs').run P w = .ok () w' ∧ Rel φ B s'.t.get w' ∧ Keeps φ s.t.get w w') := by
  have _ := hT
  unfold storeCells at h
  split at h
  · obtain ⟨_, rfl⟩ := ret_some h; exact ⟨rfl, .inl ⟨rfl, rfl⟩⟩
  · rename_i hne
    obtain ⟨⟨cs, e, hi⟩, s1, h1, h2⟩ := bnd_some h
    obtain ⟨hN, rfl⟩ := rowOf_some h1
    simp only at h2 hN
    split at h2
    · rename_i hc
      obtain ⟨_, rfl⟩ := setB_some h2
      obtain ⟨L, w', hL, hrun, hR', hK⟩ := hR.store hN hc.1 hv hc.2.2.2 hc.2.1 hc.2.2.1 P
      exact ⟨rfl, .inr ⟨hne, L, w', hL, hrun, by rw [get_upd]; exact hR', hK⟩⟩
    · cases h2

theorem sim_store {φ : Phi} {B : Base} {s s' : St} {w : World} (hR : Rel φ B s.t.get w) {t : TypeId} {a a' x x' : Value} {u : Unit} (ha : VRel φ a a') (hx : VRel φ x x')
    (h : bnd (addr a) (fun p => storeVar T t p.1 p.2 x) s = some (u, s')) : s'.next = s.next ∧ ∃ w', (Instr.storeAt t a' x').run P w = .ok () w' ∧ Rel φ B s'.t.get w' ∧ Keeps φ s.t.get w w' := by
  obtain ⟨⟨N, o⟩, s1, h1, h2⟩ := bnd_some h
  obtain ⟨rfl, rfl⟩ := addr_some (v' := a') h1
  unfold storeVar at h2
  cases hn : T.size t with
  | none => simp [hn, fail] at h2
  | some n =>
    simp only [hn] at h2
    split at h2
    · rename_i hlen
      have hcs := cells_one hx
      cases ha with
      | @ptr _ _ L hL =>
        have hsz : x'.cells.size = n := by rw [← Array.length_toList, ← hcs.1]; exact hlen
        obtain ⟨h3, h4⟩ := sim_storeCells (P := P) hT hR hcs h2
        rcases h4 with ⟨he, rfl⟩ | ⟨_, L', w', hL', hrun, hR', hK⟩
        · refine ⟨rfl, w, ?_, hR, .refl _ _ _⟩
          have : x'.cells.toList = [] := by have := hcs.1; rw [he] at this; exact List.eq_nil_of_length_eq_zero this.symm
          simp [Instr.storeAt, Instr.sureAddr, Go.storeVar, run_size hT hn, hsz, this, Go.storeCells]
        · rw [hL] at hL'; cases hL'
          exact ⟨h3, w', by simpa [Instr.storeAt, Instr.sureAddr, Go.storeVar, run_size hT hn, hsz] using hrun, hR', hK⟩
    · cases h2

/-- A new row of cells, all of them known. -/
theorem sim_newRow {φ : Phi} {B : Base} {s : St} {w : World} (hR : Rel φ B s.t.get w) (hf : φ s.next = none) {e : TypeId} {vs : List Value} {c : Array Value} (hc : LRel φ vs c.toList) :
    Grows B φ (φ.add s.next ⟨w.heap.size, 0, c.size⟩) s.next (s.next + 1) ∧ Rel (φ.add s.next ⟨w.heap.size, 0, c.size⟩) B (s.t.set s.next (some (.cells vs e 0))).get (w.alloc (.cells c e)) :=
  have _ := hT
  ⟨.add _ hf hR.newOk, by rw [get_upd]; exact hR.newRow hf vs c e 0 (0, 0) (by rw [hc.1]; simp) hc.cells (fun _ => .inl rfl)⟩

theorem sim_newVar {φ : Phi} {B : Base} {s s' : St} {w : World} (hR : Rel φ B s.t.get w) (hf : Fresh φ s.next s'.next) {t : TypeId} {x x' v : Value} (hx : VRel φ x x')
    (h : newRow t (cellsOf x) s = some (v, s')) : Came φ B s w v s' ((do pure (.pointer (some (← newVar t x'))) : Sem Value).run P w) := by
  unfold newRow at h
  obtain ⟨N, s1, h1, h2⟩ := bnd_some h
  obtain ⟨rfl, rfl⟩ := newB_some h1
  obtain ⟨rfl, rfl⟩ := ret_some h2
  obtain ⟨hg, hR'⟩ := sim_newRow (T := T) (P := P) hT hR (hf s.next (Nat.le_refl _) (by simp)) (e := t) (cells_one hx)
  refine ⟨_, w.alloc (.cells x'.cells t), .pointer (some ⟨w.heap.size, 0, none⟩), ?_, by simp, hg, hR', ?_, .alloc _ _ _ _⟩
  · simp [newVar, Go.newRow]
  · exact VRel.ptr (L := ⟨w.heap.size, 0, x'.cells.size⟩) (Phi.add_same _ _ _)

end
end Go.Ev
