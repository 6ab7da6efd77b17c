/-
  EV, PART C: what happens to the heap's relation when a block is laid, written, struck.
-/
import Derived.Test.YtelpkdjibjddlaaEvB
import Derived.Laws.IdiomCopy
import Derived.Laws.IdiomStrings
import Derived.Laws.NewFold
import Derived.Lib.Strings
set_option linter.unusedSimpArgs false
set_option linter.unusedVariables false
namespace Go.Ev
open Go Go.RowKit

def upd (H : Nat → Option Blk) (n : Nat) (x : Option Blk) : Nat → Option Blk := fun j => if j = n then x else H j

theorem get_upd (t : Tree) (n : Nat) (x : Option Blk) : (t.set n x).get = upd t.get n x := by
  funext j; rw [Tree.get_set]; rfl
theorem upd_same (H : Nat → Option Blk) (n : Nat) (x : Option Blk) : upd H n x n = x := by simp [upd]
theorem upd_ne (H : Nat → Option Blk) {n j : Nat} (x : Option Blk) (h : j ≠ n) : upd H n x j = H j := by simp [upd, h]

theorem BRel.mono {φ φ' : Phi} (hle : φ.Le φ') {B : Base} {L : Loc} {b : Blk} {w : World} (h : BRel φ B L b w) : BRel φ' B L b w := by
  cases b with
  | cells vs e hi =>
    obtain ⟨c, fz, h1, h2, h3, h4, h5⟩ := h
    exact ⟨c, fz, h1, h2, h3, fun i v hv => let ⟨v', a, b⟩ := h4 i v hv; ⟨v', a, b.mono hle⟩, h5⟩
  | obj o =>
    obtain ⟨o', h1, h2, h3, h4⟩ := h
    refine ⟨o', h1, ?_, h3, h4⟩
    cases o <;> cases o' <;> simp only [ORel] at h2 ⊢ <;> first
      | exact h2
      | skip
    · exact ⟨h2.1, h2.2.1, fun i e e' a b => let ⟨x, y, z, u⟩ := h2.2.2 i e e' a b; ⟨x, y.mono hle, z, u.mono hle⟩⟩
    · obtain ⟨a, b, c, d, e, f, g, ⟨L', hL, hb⟩, hc⟩ := h2
      exact ⟨a, b, c, d.mono hle, e, f, g, ⟨L', hle _ _ hL, hb⟩, hc⟩
    · rename_i x y
      rcases x with _ | (_ | _) <;> rcases y with _ | (_ | _) <;> exact h2

theorem BRel.congr {φ : Phi} {B : Base} {L : Loc} {b : Blk} {w w' : World} (hw : w'.heap[L.blk]? = w.heap[L.blk]?) (h : BRel φ B L b w) : BRel φ B L b w' := by
  cases b with
  | cells vs e hi => obtain ⟨c, fz, h1, r⟩ := h; exact ⟨c, fz, hw.trans h1, r⟩
  | obj o => obtain ⟨o', h1, r⟩ := h; exact ⟨o', hw.trans h1, r⟩

theorem Rel.heap {φ : Phi} {B : Base} {H : Nat → Option Blk} {w w' : World} (h : Rel φ B H w) (hw : w'.heap = w.heap) : Rel φ B H w' :=
  ⟨hw ▸ h.base, fun N b e => let ⟨L, a, r⟩ := h.blk N b e; ⟨L, a, r.congr (by rw [hw])⟩, h.apart, fun N L e => by rw [hw]; exact h.inw N L e⟩

theorem Keeps.heap {φ : Phi} {H : Nat → Option Blk} {w w' : World} (h1 : w'.os = w.os) (h2 : w'.tape = w.tape) (h3 : w'.output = w.output) (hw : w'.heap = w.heap) : Keeps φ H w w' :=
  ⟨h1, h2, h3, by rw [hw]; exact Nat.le_refl _, fun k _ => .inl (by rw [hw])⟩

/-- The map of names with one more. -/
def Phi.add (φ : Phi) (n : Nat) (L : Loc) : Phi := fun j => if j = n then some L else φ j
theorem Phi.add_same (φ : Phi) (n : Nat) (L : Loc) : φ.add n L n = some L := by simp [Phi.add]
theorem Phi.le_add {φ : Phi} {n : Nat} (L : Loc) (h : φ n = none) : φ.Le (φ.add n L) := fun N L' e => by
  unfold Phi.add
  by_cases hN : N = n
  · subst hN; rw [h] at e; cases e
  · rw [if_neg hN]; exact e
theorem Grows.add {B : Base} {φ : Phi} {n : Nat} (L : Loc) (h : φ n = none) (hk : ¬ B.keep L.blk) : Grows B φ (φ.add n L) n (n + 1) :=
  ⟨Phi.le_add L h, fun N hN => by
    unfold Phi.add at hN
    by_cases e : N = n
    · exact .inr (by omega)
    · rw [if_neg e] at hN; exact .inl hN, fun N L' hN => by
    unfold Phi.add at hN
    by_cases e : N = n
    · rw [if_pos e] at hN; cases hN; exact .inr hk
    · rw [if_neg e] at hN; exact .inl hN⟩

theorem size_alloc (w : World) (o : Obj) : (w.alloc o).heap.size = w.heap.size + 1 := by simp
theorem heap_alloc_old (w : World) (o : Obj) {k : Nat} (h : k < w.heap.size) : (w.alloc o).heap[k]? = w.heap[k]? := Below.heap_alloc w o k h
theorem heap_alloc_new (w : World) (o : Obj) : (w.alloc o).heap[w.heap.size]? = some o := by
  show (w.heap.push o)[w.heap.size]? = _
  simp

/-- A new block. -/
theorem Rel.new {φ : Phi} {B : Base} {H : Nat → Option Blk} {w : World} (h : Rel φ B H w) {n : Nat} (hn : φ n = none) (b : Blk) (o : Obj) (L : Loc) (hL : L.blk = w.heap.size)
    (hb : BRel (φ.add n L) B L b (w.alloc o)) : Rel (φ.add n L) B (upd H n (some b)) (w.alloc o) := by
  have hle := Phi.le_add L hn
  refine ⟨fun k hk => by rw [size_alloc]; exact Nat.lt_succ_of_lt (h.base k hk), fun N b' e => ?_, fun N N' b1 b2 L1 L2 hne e1 e2 l1 l2 hwr => ?_, fun N L' e => ?_⟩
  · by_cases hN : N = n
    · subst hN
      rw [upd_same] at e; cases e
      exact ⟨L, Phi.add_same _ _ _, hb⟩
    · rw [upd_ne _ _ hN] at e
      obtain ⟨L', hL', r⟩ := h.blk N b' e
      exact ⟨L', hle _ _ hL', (r.congr (heap_alloc_old w o (h.inw _ _ hL'))).mono hle⟩
  · have old : ∀ {N b L'}, N ≠ n → upd H n (some b) N = H N → φ.add n L N = some L' → φ N = some L' := fun hN _ e => by
      unfold Phi.add at e; rwa [if_neg hN] at e
    by_cases h1 : N = n
    · subst h1
      rw [Phi.add_same] at l1; cases l1
      have := old (b := b) (Ne.symm hne) (upd_ne _ _ (Ne.symm hne)) l2
      have := h.inw _ _ this
      omega
    · by_cases h2 : N' = n
      · subst h2
        rw [Phi.add_same] at l2; cases l2
        have := old (b := b) h1 (upd_ne _ _ h1) l1
        have := h.inw _ _ this
        omega
      · rw [upd_ne _ _ h1] at e1
        rw [upd_ne _ _ h2] at e2
        exact h.apart N N' b1 b2 L1 L2 hne e1 e2 (old (b := b) h1 (upd_ne _ _ h1) l1) (old (b := b) h2 (upd_ne _ _ h2) l2) hwr
  · rw [size_alloc]
    unfold Phi.add at e
    by_cases hN : N = n
    · rw [if_pos hN] at e; cases e; omega
    · rw [if_neg hN] at e; have := h.inw _ _ e; omega

theorem Keeps.alloc (φ : Phi) (H : Nat → Option Blk) (w : World) (o : Obj) : Keeps φ H w (w.alloc o) :=
  ⟨rfl, rfl, rfl, by rw [size_alloc]; omega, fun _ hk => .inl (heap_alloc_old w o hk)⟩

/-- A row of cells, laid. -/
theorem Rel.newRow {φ : Phi} {B : Base} {H : Nat → Option Blk} {w : World} (h : Rel φ B H w) {n : Nat} (hn : φ n = none) (vs : List Value) (c : Array Value) (e : TypeId) (hi : Nat)
    (fz : Nat × Nat) (hlen : vs.length ≤ c.size) (hv : ∀ (i : Nat) v, vs[i]? = some v → ∃ v', c[i]? = some v' ∧ VRel φ v v') (hfz : hi < END → fz.1 = fz.2 ∨ fz.2 ≤ hi) :
    Rel (φ.add n ⟨w.heap.size, 0, c.size⟩) B (upd H n (some (.cells vs e hi))) (w.alloc (.cells c e fz)) := by
  refine h.new hn _ _ _ rfl ⟨c, fz, heap_alloc_new _ _, hlen, by simp, fun i v hv' => ?_, fun hh => ⟨h.newOk, by simpa using hfz hh, by simp⟩⟩
  obtain ⟨v', h1, h2⟩ := hv i v hv'
  exact ⟨v', by simpa using h1, h2.mono (Phi.le_add _ hn)⟩

theorem LRel.cells {φ : Phi} {vs : List Value} {c : Array Value} (h : LRel φ vs c.toList) : ∀ (i : Nat) v, vs[i]? = some v → ∃ v', c[i]? = some v' ∧ VRel φ v v' := fun i v hv => by
  obtain ⟨v', h1, h2⟩ := h.get hv
  exact ⟨v', by rw [← Array.getElem?_toList]; exact h1, h2⟩

/-- A block that may be written, written (its other names' blocks are others). -/
theorem Rel.set {φ : Phi} {B : Base} {H : Nat → Option Blk} {w w' : World} (h : Rel φ B H w) {N : Nat} {b : Blk} {L : Loc} (hN : H N = some b) (hL : φ N = some L) (hw : wr b) (b' : Blk)
    (hsz : w'.heap.size = w.heap.size) (hk : ∀ k, k ≠ L.blk → w'.heap[k]? = w.heap[k]?) (hb : BRel φ B L b' w') : Rel φ B (upd H N (some b')) w' := by
  refine ⟨hsz ▸ h.base, fun M m e => ?_, fun M M' m m' L1 L2 hne e1 e2 l1 l2 hwr => ?_, fun M L' e => hsz ▸ h.inw M L' e⟩
  · by_cases hM : M = N
    · subst hM
      rw [upd_same] at e; cases e
      exact ⟨L, hL, hb⟩
    · rw [upd_ne _ _ hM] at e
      obtain ⟨L', hL', r⟩ := h.blk M m e
      exact ⟨L', hL', r.congr (hk _ (Ne.symm (h.apart N M b m L L' (Ne.symm hM) hN e hL hL' hw)))⟩
  · by_cases h1 : M = N
    · subst h1
      rw [hL] at l1; cases l1
      rw [upd_ne _ _ (Ne.symm hne)] at e2
      exact h.apart M M' b m' L L2 hne hN e2 hL l2 hw
    · rw [upd_ne _ _ h1] at e1
      by_cases h2 : M' = N
      · subst h2
        exact h.apart M M' m b L1 L2 hne e1 hN l1 l2 hwr
      · rw [upd_ne _ _ h2] at e2
        exact h.apart M M' m m' L1 L2 hne e1 e2 l1 l2 hwr

theorem Keeps.set {φ : Phi} {H : Nat → Option Blk} {w w' : World} {N : Nat} {b : Blk} {L : Loc} (hN : H N = some b) (hL : φ N = some L) (hw : wr b)
    (h1 : w'.os = w.os) (h2 : w'.tape = w.tape) (h3 : w'.output = w.output) (hsz : w'.heap.size = w.heap.size) (hk : ∀ k, k ≠ L.blk → w'.heap[k]? = w.heap[k]?) : Keeps φ H w w' :=
  ⟨h1, h2, h3, by omega, fun k _ => by
    by_cases e : k = L.blk
    · exact .inr ⟨N, b, L, hN, hw, hL, e.symm⟩
    · exact .inl (hk k e)⟩

/-- A name, struck. -/
theorem Rel.del {φ : Phi} {B : Base} {H : Nat → Option Blk} {w : World} (h : Rel φ B H w) (N : Nat) : Rel φ B (upd H N none) w :=
  h.sub fun M b e => by
    by_cases hM : M = N
    · subst hM; rw [upd_same] at e; cases e
    · rwa [upd_ne _ _ hM] at e

/-- A cell that is read. -/
theorem Rel.cell {φ : Phi} {B : Base} {H : Nat → Option Blk} {w : World} (h : Rel φ B H w) {N : Nat} {vs : List Value} {e : TypeId} {hi : Nat} (hN : H N = some (.cells vs e hi)) :
    ∃ L, φ N = some L ∧ ∀ (i : Nat) v, vs[i]? = some v → ∃ v', w.cell? ⟨L.blk, L.off + i, none⟩ = some v' ∧ VRel φ v v' := by
  obtain ⟨L, hL, c, fz, h1, h2, h3, h4, h5⟩ := h.blk N _ hN
  refine ⟨L, hL, fun i v hv => ?_⟩
  obtain ⟨v', a, b⟩ := h4 i v hv
  exact ⟨v', by simp [World.cell?, h1, a], b⟩

theorem add_addr (b o n : Nat) : Addr.add ⟨b, o, none⟩ n = ⟨b, o + n, none⟩ := by
  unfold Addr.add
  split
  · subst_vars; rfl
  · rfl

/-- Cells that are read, one behind the other. -/
theorem Rel.cells {φ : Phi} {B : Base} {H : Nat → Option Blk} {w : World} (h : Rel φ B H w) {N : Nat} {vs : List Value} {e : TypeId} {hi : Nat} (hN : H N = some (.cells vs e hi)) {P : Program} {o n : Nat} {r : List Value}
    (hr : slice vs o n = some r) : ∃ L r', φ N = some L ∧ LRel φ r r' ∧ (Go.loadCells ⟨L.blk, L.off + o, none⟩ n).run P w = .ok ⟨r'⟩ w := by
  obtain ⟨L, hL, hc⟩ := h.cell hN
  unfold slice at hr
  simp only at hr
  by_cases hlen : ((vs.drop o).take n).length = n
  · rw [if_pos hlen] at hr
    cases hr
    generalize hr : (vs.drop o).take n = r at *
    have key : ∀ (i : Nat), i < n → ∃ v v', r[i]? = some v ∧ w.cell? ⟨L.blk, L.off + o + i, none⟩ = some v' ∧ VRel φ v v' := fun i hi => by
      have hri : r[i]? = some (r[i]'(by omega)) := List.getElem?_eq_getElem _
      have hri' : vs[o + i]? = some (r[i]'(by omega)) := by
        rw [← hri, ← hr, List.getElem?_take, if_pos hi, List.getElem?_drop]
      obtain ⟨v', a, b⟩ := hc (o + i) _ hri'
      exact ⟨_, v', hri, by rw [Nat.add_assoc]; exact a, b⟩
    refine ⟨L, (List.range n).map fun i => (w.cell? ⟨L.blk, L.off + o + i, none⟩).getD undef, hL, ⟨by simp [hlen], fun i v v' hv hv' => ?_⟩, ?_⟩
    · have hi : i < n := by have := (List.getElem?_eq_some_iff.1 hv).1; omega
      obtain ⟨v1, v2, k1, k2, k3⟩ := key i hi
      rw [hv] at k1; cases k1
      rw [List.getElem?_map, List.getElem?_range hi] at hv'
      simp only [Option.map_some, k2, Option.getD_some, Option.some.injEq] at hv'
      subst hv'; exact k3
    · exact run_loadCells w _ n _ fun j hj => by
        obtain ⟨v1, v2, k1, k2, k3⟩ := key j hj
        rw [add_addr, k2]; rfl
  · rw [if_neg hlen] at hr; cases hr

theorem oneCell_eq {φ : Phi} {v v' : Value} (h : VRel φ v v') (ho : oneCell v = true) : v'.oneCell' = true := by
  cases h <;> first | rfl | (simp [oneCell] at ho)

theorem cells_one {φ : Phi} {v v' : Value} (h : VRel φ v v') : LRel φ (cellsOf v) v'.cells.toList := by
  have h0 := h
  cases h with
  | agg a a' ha hav => exact ⟨ha, hav⟩
  | _ => exact LRel.one h0

theorem putAt_length : ∀ (l : List Value) (o : Nat) (vs : List Value), (putAt l o vs).length = l.length
  | l, o, [] => by cases l <;> cases o <;> rfl
  | [], o, v :: vs => by cases o <;> rfl
  | x :: l, 0, v :: vs => by simp [putAt, putAt_length l 0 vs]
  | x :: l, o + 1, v :: vs => by simp [putAt, putAt_length l o (v :: vs)]

theorem putAt_get : ∀ (l : List Value) (o : Nat) (vs : List Value) (i : Nat), o + vs.length ≤ l.length →
    (putAt l o vs)[i]? = if o ≤ i ∧ i < o + vs.length then vs[i - o]? else l[i]?
  | l, o, [], i, _ => by
    rw [if_neg (by simp)]
    cases l <;> cases o <;> rfl
  | [], o, v :: vs, i, h => by simp at h
  | x :: l, 0, v :: vs, i, h => by
    simp only [putAt]
    cases i with
    | zero => simp
    | succ i =>
      rw [List.getElem?_cons_succ, putAt_get l 0 vs i (by simp at h ⊢; omega)]
      by_cases hi : i < vs.length
      · rw [if_pos (by simp; omega), if_pos (by simp; omega)]; simp
      · rw [if_neg (by simp; omega), if_neg (by simp; omega)]; simp
  | x :: l, o + 1, v :: vs, i, h => by
    simp only [putAt]
    cases i with
    | zero => rw [if_neg (by omega)]; rfl
    | succ i =>
      rw [List.getElem?_cons_succ, putAt_get l o (v :: vs) i (by simp at h ⊢; omega)]
      by_cases hi : o ≤ i ∧ i < o + (v :: vs).length
      · rw [if_pos hi, if_pos (by simp at hi ⊢; omega)]; congr 1; omega
      · rw [if_neg hi, if_neg (by simp at hi ⊢; omega)]; simp

/-- What a row of stores does to a block of cells. -/
theorem setCells_heap (b : Nat) : ∀ (vs : List Value) (o : Nat) (w : World) (c : Array Value) (e : TypeId) (fz : Nat × Nat), w.heap[b]? = some (.cells c e fz) →
    (w.setCells b o vs).os = w.os ∧ (w.setCells b o vs).tape = w.tape ∧ (w.setCells b o vs).output = w.output ∧ (w.setCells b o vs).heap.size = w.heap.size ∧
    (∀ k, k ≠ b → (w.setCells b o vs).heap[k]? = w.heap[k]?) ∧
    ∃ c', (w.setCells b o vs).heap[b]? = some (.cells c' e fz) ∧ c'.size = c.size ∧ ∀ i, c'[i]? = if o ≤ i ∧ i < o + vs.length ∧ i < c.size then vs[i - o]? else c[i]?
  | [], o, w, c, e, fz, h => ⟨rfl, rfl, rfl, rfl, fun _ _ => rfl, c, h, rfl, fun i => by rw [if_neg (by simp; omega)]⟩
  | v :: vs, o, w, c, e, fz, h => by
    have h1 : (w.setCell ⟨b, o, none⟩ v).heap[b]? = some (.cells (c.setIfInBounds o v) e fz) := by
      simp [World.setCell, Array.getElem?_modify, h]
    obtain ⟨a1, a2, a3, a4, a5, c', a6, a7, a8⟩ := setCells_heap b vs (o + 1) (w.setCell ⟨b, o, none⟩ v) _ e fz h1
    simp only [World.setCells]
    refine ⟨a1, a2, a3, by rw [a4]; simp [World.setCell], fun k hk => by rw [a5 k hk, Below.heap_setCell _ _ _ _ hk], c', a6, by simp [a7], fun i => ?_⟩
    rw [a8 i]
    simp only [Array.size_setIfInBounds, List.length_cons]
    by_cases hi : o + 1 ≤ i ∧ i < o + 1 + vs.length ∧ i < c.size
    · rw [if_pos hi, if_pos (by omega), show i - o = (i - (o + 1)) + 1 by omega, List.getElem?_cons_succ]
    · rw [if_neg hi, Array.getElem?_setIfInBounds]
      by_cases ho : o = i
      · subst ho
        rw [if_pos rfl]
        by_cases hs : o < c.size
        · rw [if_pos hs, if_pos (by omega)]; simp
        · rw [if_neg hs, if_neg (by omega)]; simp [Array.getElem?_eq_none (Nat.le_of_not_lt hs)]
      · rw [if_neg ho, if_neg (by omega)]

theorem not_frozen {w : World} {b : Nat} {c : Array Value} {e : TypeId} {fz : Nat × Nat} (h : w.heap[b]? = some (.cells c e fz)) {i : Nat} (hf : fz.1 = fz.2 ∨ fz.2 ≤ i) : w.frozen? ⟨b, i, none⟩ = false := by
  obtain ⟨lo, hi⟩ := fz
  simp only [World.frozen?, h]
  simp at hf ⊢
  omega

/-- Cells that are written, one behind the other. -/
theorem Rel.store {φ : Phi} {B : Base} {H : Nat → Option Blk} {w : World} (h : Rel φ B H w) {N : Nat} {cs : List Value} {e : TypeId} {hi : Nat} (hN : H N = some (.cells cs e hi)) (hhi : hi < END) {o : Nat} {vs vs' : List Value}
    (hv : LRel φ vs vs') (hone : vs.all oneCell = true) (hlo : hi ≤ o) (hlen : o + vs.length ≤ cs.length) (P : Program) :
    ∃ L w', φ N = some L ∧ (Go.storeCells ⟨L.blk, L.off + o, none⟩ vs').run P w = .ok () w' ∧ Rel φ B (upd H N (some (.cells (putAt cs o vs) e hi))) w' ∧ Keeps φ H w w' := by
  obtain ⟨L, hL, c, fz, h1, h2, h3, h4, h5⟩ := h.blk N _ hN
  obtain ⟨hB, hfz, hdv⟩ := h5 hhi
  have hlen' : vs'.length = vs.length := hv.1.symm
  have hcell : ∀ i, i < c.size → w.cell? ⟨L.blk, i, none⟩ = c[i]? := fun i hi => by simp [World.cell?, h1]
  have hrun := run_storeCells_cells (P := P) L.blk (L.off + o) vs' 0 w (fun j hj => by
      rw [Nat.add_zero, hcell _ (by omega)]
      rw [Array.getElem?_eq_getElem (by omega)]; rfl)
    (fun j hj => not_frozen h1 (by omega))
    (fun v hv' => by
      obtain ⟨i, hi', rfl⟩ := List.getElem_of_mem hv'
      have hl : i < vs.length := by omega
      exact oneCell_eq (hv.2 i vs[i] vs'[i] (List.getElem?_eq_getElem hl) (List.getElem?_eq_getElem hi')) (List.all_eq_true.1 hone _ (List.getElem_mem hl)))
  obtain ⟨a1, a2, a3, a4, a5, c', a6, a7, a8⟩ := setCells_heap L.blk vs' (L.off + o + 0) w c e fz h1
  have hwr : wr (.cells cs e hi) := hhi
  refine ⟨L, _, hL, hrun, h.set hN hL hwr _ a4 a5 ⟨c', fz, a6, by rw [putAt_length]; exact h2, by omega, fun i v hiv => ?_, h5⟩, Keeps.set hN hL hwr a1 a2 a3 a4 a5⟩
  rw [putAt_get _ _ _ _ hlen] at hiv
  rw [a8]
  by_cases hc : o ≤ i ∧ i < o + vs.length
  · rw [if_pos hc] at hiv
    obtain ⟨v', hv1, hv2⟩ := hv.get hiv
    refine ⟨v', ?_, hv2⟩
    rw [if_pos (by omega), show L.off + i - (L.off + o + 0) = i - o by omega]
    exact hv1
  · rw [if_neg hc] at hiv
    rw [if_neg (by omega)]
    exact h4 i v hiv

end Go.Ev
