/-
  EV: the reading of a law's arguments: slices of what lies in cells alone, as rows of the evaluator's heap.
-/
import Derived.Test.YtelpkdjibjddlaaEvSpec
import Derived.Deep.Slices
import Derived.SizedLaws
import Derived.ChangeOld
set_option linter.unusedSimpArgs false
set_option linter.unusedVariables false
namespace Go.Ev
open Go Go.RowKit Go.ChangeShapes Go.WideShapes Go.Deep

/-- What is known of a slice that is handed in. -/
def Handed {α : Type} (c : α → List Value) (k : Nat) (w : World) (a : Option Addr) (len cap : Nat) (l : List α) : Prop :=
  l.length = len ∧ len < 4611686018427387904 ∧ cap < END ∧ len ≤ cap ∧ ((a = none ∧ l = []) ∨ ∃ blk off, a = some ⟨blk, off, none⟩ ∧ blk < w.heap.size ∧ ∃ cs e fz, w.heap[blk]? = some (.cells cs e fz) ∧ (l ≠ [] → off + len * k ≤ cs.size) ∧
    ∀ i y, l[i]? = some y → ∀ j v, (c y)[j]? = some v → cs[off + (i * k + j)]? = some v)

section
variable {H : Type} {enc : TypeId × Value → H} {P : Program} {w : World} {α : Type} {c : α → List Value} {k : Nat}

theorem mem_weightsAll {e : TypeId} {ds : List (DataW H)} {d : DataW H} (h : d ∈ ds) {n : Nat} (hn : n ∈ d.weights P e) : n ∈ DataW.weightsAll P e ds := by
  induction ds with
  | nil => cases h
  | cons x r ih =>
    unfold DataW.weightsAll
    rcases List.mem_cons.1 h with rfl | h
    · exact List.mem_append_left _ hn
    · exact List.mem_append_right _ (ih h)

theorem list_of {α : Type} {p : Nat → α → Prop} {n : Nat} (h : ∀ i, i < n → ∃ y, p i y) : ∃ l : List α, l.length = n ∧ ∀ i y, l[i]? = some y → p i y := by
  induction n with
  | zero => exact ⟨[], rfl, fun i y h => by simp at h⟩
  | succ n ih =>
    obtain ⟨l, hl1, hl2⟩ := ih fun i hi => h i (by omega)
    obtain ⟨y, hy⟩ := h n (by omega)
    refine ⟨l ++ [y], by simp [hl1], fun i z hz => ?_⟩
    by_cases hi : i < n
    · rw [List.getElem?_append_left (by omega)] at hz; exact hl2 i z hz
    · rw [List.getElem?_append_right (by omega)] at hz
      have : i = n := by
        rcases Nat.lt_or_ge (i - l.length) 1 with h | h
        · omega
        · rw [List.getElem?_eq_none (by simpa using h)] at hz; cases hz
      subst this
      rw [hl1, Nat.sub_self] at hz
      simp at hz
      subst hz; exact hy

theorem handed {t e : TypeId} {base b0 : Nat} {r : Reach} {a : Option Addr} {len cap : Nat} {d : DataW H} {ps : List MemPlace} (Okα : α → Prop) (ht : P.underlying t = some (.slice e)) (hk : P.cellsOf e = k) (hk0 : 0 < k) (hc : ∀ y, (c y).length = k) (hb : 0 < P.bytesOf e)
    (elt : ∀ cs n x, DataW.trod enc P w base (fun _ => true) true n e cs = some x → (∀ m ∈ x.1.weights P e, m ≤ reachBytes) → ∃ y, cs = c y ∧ Okα y)
    (hval : Value.okWide P w r b0 t (.slice a len cap)) (h : DataW.Trod enc P w base (fun _ => true) true t (.slice a len cap) d ps) (hz : ∀ m ∈ d.weights P t, m ≤ reachBytes) :
    ∃ l : List α, (∀ y ∈ l, Okα y) ∧ Handed c k w a len cap l := by
  obtain ⟨fuel, hf⟩ := h
  have hcell : Value.cells (.slice a len cap) = #[.slice a len cap] := rfl
  rw [hcell] at hf
  rcases open_slice ht hf with ⟨h0, hd⟩ | ⟨x, len', cap', m, n, D, Pl, h0, _, hl, hm, hmm, hd, hx⟩
  · simp at h0
    obtain ⟨rfl, rfl, rfl⟩ := h0
    exact ⟨[], fun _ h => (by cases h), rfl, by decide, by decide, Nat.le_refl _, .inl ⟨rfl, rfl⟩⟩
  · simp at h0
    obtain ⟨rfl, rfl, rfl⟩ := h0
    simp only [if_true] at hmm
    subst hmm
    obtain ⟨rfl, rfl⟩ := Prod.mk.inj hd
    have hcap : m * P.bytesOf e ≤ reachBytes := by
      have := hz ((len + (m - len)) * P.bytesOf e) (by simp [DataW.weights, ht])
      rwa [show len + (m - len) = m by omega] at this
    have hcapE : m ≤ reachBytes := Nat.le_trans (Nat.le_mul_of_pos_right _ hb) hcap
    have hR : reachBytes < 4611686018427387904 := by decide
    have hE : reachBytes < END := by decide
    have each : ∀ i, i < len → ∃ q : α × List Value, q.2 = c q.1 ∧ Okα q.1 ∧ w.cells? base (x.add (i * P.cellsOf e)) (P.cellsOf e) = some q.2 := fun i hi => by
      obtain ⟨cs', h1, h2⟩ := hx i (by omega)
      obtain ⟨y, hy, hok⟩ := elt _ _ _ h2 fun m' hm' => hz m' (by
        unfold DataW.weights
        simp only [ht]
        refine List.mem_cons_of_mem _ (List.mem_append_left _ (mem_weightsAll (List.mem_map.2 ⟨i, List.mem_range.2 hi, rfl⟩) hm')))
      exact ⟨(y, cs'), hy, hok, h1⟩
    have hsl : x.spot = none ∧ ∃ row cells, w.shape? x.block = some (row, cells) := by
      simp only [Value.okWide, ht, Cell.okWide, Cell.ok] at hval
      obtain ⟨_, _, _, h1, row, cells, h2, _⟩ := hval
      exact ⟨h1, row, cells, h2⟩
    obtain ⟨hspot, row, cells, hshape⟩ := hsl
    obtain ⟨blk, off, sp⟩ := x
    simp only at hspot hshape
    subst hspot
    have hblk : ∃ cs e' fz, w.heap[blk]? = some (.cells cs e' fz) := by
      unfold World.shape? at hshape
      split at hshape
      · rename_i cs e' fz hh; exact ⟨cs, e', fz, hh⟩
      · cases hshape
    obtain ⟨cs, e', fz, hh⟩ := hblk
    have hlt : blk < w.heap.size := by
      rcases Nat.lt_or_ge blk w.heap.size with h | h
      · exact h
      · rw [Array.getElem?_eq_none h] at hh; cases hh
    have hcellw : ∀ o, w.cell? ⟨blk, o, none⟩ = cs[o]? := fun o => by unfold World.cell?; simp [hh]
    have hadd : ∀ o, (Addr.mk blk off none).add o = ⟨blk, off + o, none⟩ := fun o => by
      unfold Addr.add; split
      · rename_i h; subst h; rfl
      · rfl
    have pick : ∃ l : List α, l.length = len ∧ ∀ i y, l[i]? = some y → Okα y ∧ w.cells? base ((Addr.mk blk off none).add (i * P.cellsOf e)) (P.cellsOf e) = some (c y) := by
      obtain ⟨l, g1, g2⟩ := list_of (p := fun i y => Okα y ∧ w.cells? base ((Addr.mk blk off none).add (i * P.cellsOf e)) (P.cellsOf e) = some (c y)) fun i hi => (by
        obtain ⟨⟨y, cs'⟩, h1, h2, h3⟩ := each i hi
        simp only at h1 h2 h3
        subst h1
        exact ⟨y, h2, h3⟩)
      exact ⟨l, g1, g2⟩
    obtain ⟨l, hl1, hl2⟩ := pick
    refine ⟨l, fun y hy => ?_, hl1, by omega, by omega, hl, .inr ⟨blk, off, rfl, hlt, cs, e', fz, hh, fun hne => ?_, fun i y hy j v hv => ?_⟩⟩
    · obtain ⟨i, hi⟩ := List.getElem?_of_mem hy
      exact (hl2 i y hi).1
    · have hpos : 0 < l.length := List.length_pos_iff.2 hne
      obtain ⟨y, hy⟩ := ex_at (l := l) (i := l.length - 1) (by omega)
      have := (hl2 _ y hy).2
      obtain ⟨_, hlen, hcl⟩ := World.cells?_some this
      have h1 := hcl (k - 1) (by rw [hk]; omega)
      have h2 : k - 1 < (c y).length := by rw [hc]; omega
      rw [List.getElem?_eq_getElem h2, hadd, hk] at h1
      simp only [Addr.add] at h1
      have h3 : (w.cell? ⟨blk, off + (l.length - 1) * k + (k - 1), none⟩).isSome = true := by
        split at h1
        · rename_i h0; rw [h0, Nat.add_zero, h1]; rfl
        · rw [h1]; rfl
      rw [hcellw] at h3
      obtain ⟨v, hv⟩ := Option.isSome_iff_exists.1 h3
      have h4 : off + (l.length - 1) * k + (k - 1) < cs.size := by
        rcases Nat.lt_or_ge (off + (l.length - 1) * k + (k - 1)) cs.size with h | h
        · exact h
        · rw [Array.getElem?_eq_none h] at hv; cases hv
      have h5 : len * k = (l.length - 1) * k + k := by
        rw [← Nat.succ_mul]; congr 1; omega
      omega
    · have := (hl2 i y hy).2
      obtain ⟨_, hlen, hcl⟩ := World.cells?_some this
      have hj : j < k := by
        rcases Nat.lt_or_ge j (c y).length with h | h
        · rwa [hc] at h
        · rw [List.getElem?_eq_none h] at hv; cases hv
      have h1 := hcl j (by rw [hk]; exact hj)
      rw [hv, hadd, hk] at h1
      rw [← hcellw, ← Nat.add_assoc]
      unfold Addr.add at h1
      split at h1
      · rename_i h0; rw [h0, Nat.add_zero]; exact h1
      · exact h1
end

/-! The rows of the evaluator. -/
theorem slice_flat {α : Type} {c : α → List Value} {k : Nat} (hc : ∀ y, (c y).length = k) : ∀ (l : List α) (i : Nat) (y : α), l[i]? = some y → Ev.slice (l.map c).flatten (i * k) k = some (c y)
  | [], i, y, h => by simp at h
  | x :: l, 0, y, h => by
    simp at h; subst h
    unfold Ev.slice
    have : ((c x).length) = k := hc x
    simp [this]
  | x :: l, i + 1, y, h => by
    have ih := slice_flat hc l i y (by simpa using h)
    unfold Ev.slice at ih ⊢
    have hd : ((x :: l).map c).flatten.drop ((i + 1) * k) = (l.map c).flatten.drop (i * k) := by
      simp only [List.map_cons, List.flatten_cons]
      rw [Nat.succ_mul, Nat.add_comm, ← List.drop_drop, List.drop_left' (hc x)]
    rw [hd]; exact ih
theorem flat_length {α : Type} {c : α → List Value} {k : Nat} (hc : ∀ y, (c y).length = k) : ∀ l : List α, (l.map c).flatten.length = l.length * k
  | [] => by simp
  | x :: l => by simp only [List.map_cons, List.flatten_cons, List.length_append, flat_length hc l, hc, List.length_cons, Nat.succ_mul]; omega
theorem flat_get {α : Type} {c : α → List Value} {k : Nat} (hc : ∀ y, (c y).length = k) (l : List α) {q : Nat} {v : Value} (h : (l.map c).flatten[q]? = some v) : ∃ i j y, q = i * k + j ∧ l[i]? = some y ∧ (c y)[j]? = some v := by
  induction l generalizing q with
  | nil => simp at h
  | cons x l ih =>
    simp only [List.map_cons, List.flatten_cons] at h
    by_cases hq : q < (c x).length
    · rw [List.getElem?_append_left hq] at h
      exact ⟨0, q, x, by omega, rfl, h⟩
    · rw [List.getElem?_append_right (by omega), hc] at h
      rw [hc] at hq
      obtain ⟨i, j, y, h1, h2, h3⟩ := ih h
      exact ⟨i + 1, j, y, by rw [Nat.succ_mul]; omega, by simpa using h2, h3⟩

/-- The row of a slice that is handed in; the place of its name. -/
noncomputable def argRow {α : Type} (c : α → List Value) (w : World) (a : Option Addr) (l : List α) : Option Blk := match a with
  | none => none
  | some x => match w.heap[x.block]? with
    | some (.cells _ e _) => if l.isEmpty = true then none else some (.cells (l.map c).flatten e END)
    | _ => none
def argLoc {α : Type} (k : Nat) (a : Option Addr) (l : List α) : Option Loc := match a with
  | none => none
  | some x => some ⟨x.block, x.off, l.length * k⟩
/-- The slice as the evaluator has it, under this name. -/
def argSlice (N : Nat) (a : Option Addr) : Option Addr := match a with
  | none => none
  | some _ => some ⟨N, 0, none⟩

section
variable {α : Type} {c : α → List Value} {k : Nat} {w : World} {a : Option Addr} {len cap : Nat} {l : List α}
theorem Handed.sl (h : Handed c k w a len cap l) (hc : ∀ y, (c y).length = k) {t : Tree} {n N : Nat} (ht : t.get N = argRow c w a l) (hN : N < n) : ∃ vs e, Sl c k t n (argSlice N a) l N 0 vs e END := by
  obtain ⟨h1, h2, h3, h0, h4⟩ := h
  rcases h4 with ⟨rfl, rfl⟩ | ⟨blk, off, rfl, hb, cs, e, fz, hh, _, _⟩
  · exact ⟨[], 0, fun h => absurd rfl h, fun h => absurd rfl h, fun i y h => by simp at h, by simp⟩
  · unfold argRow at ht
    simp only [hh] at ht
    refine ⟨(l.map c).flatten, e, fun _ => rfl, fun hl => ⟨?_, hN⟩, fun i y hy => by rw [Nat.zero_add]; exact slice_flat hc l i y hy, by omega⟩
    rw [if_neg (by simpa using hl)] at ht; exact ht
theorem Handed.vrel (h : Handed c k w a len cap l) {φ : Phi} {N : Nat} (hφ : φ N = argLoc k a l) : VRel φ (.slice (argSlice N a) l.length cap) (.slice a len cap) := by
  obtain ⟨h1, h2, h3, h0, h4⟩ := h
  rw [h1]
  rcases h4 with ⟨rfl, rfl⟩ | ⟨blk, off, rfl, hb, cs, e, fz, hh, _, _⟩
  · exact .sliceNil _ _ h3
  · exact VRel.sliceEx (L := ⟨blk, off, l.length * k⟩) len cap hφ h3
theorem Handed.brel (h : Handed c k w a len cap l) (hc : ∀ y, (c y).length = k) (hflat : ∀ y ∈ l, ∀ v ∈ c y, Flat v) {φ : Phi} {B : Base} {b : Blk} (hb : argRow c w a l = some b) : ∃ L, argLoc k a l = some L ∧ BRel φ B L b w ∧ ¬ wr b := by
  obtain ⟨h1, h2, h3, h0, h4⟩ := h
  rcases h4 with ⟨rfl, rfl⟩ | ⟨blk, off, rfl, hbk, cs, e, fz, hh, hsz, hget⟩
  · cases hb
  · unfold argRow at hb
    simp only [hh] at hb
    split at hb
    · cases hb
    rename_i hl
    cases hb
    refine ⟨_, rfl, ⟨cs, fz, hh, ?_, ?_, ?_, fun hlt => absurd hlt (Nat.lt_irrefl _)⟩, fun hw => absurd hw (Nat.lt_irrefl _)⟩
    · rw [flat_length hc]; exact Nat.le_refl _
    · have := hsz (by simpa using hl); simp only; rw [h1]; exact this
    · intro i v hv
      obtain ⟨p, j, y, rfl, h5, h6⟩ := flat_get hc l hv
      exact ⟨v, hget p y h5 j v h6, (hflat y (List.mem_of_getElem? h5) v (List.mem_of_getElem? h6)).vrel⟩
theorem Handed.cp (h : Handed c k w a len cap l) (N : Nat) : Cp k (argSlice N a) l.length cap := by
  obtain ⟨h1, h2, h3, h0, h4⟩ := h
  refine ⟨.inl ⟨h3, by omega⟩, ?_⟩
  cases a with
  | none => exact .inl rfl
  | some x => exact .inr ⟨N, 0, rfl⟩
theorem Handed.inw (h : Handed c k w a len cap l) {L : Loc} (hL : argLoc k a l = some L) : L.blk < w.heap.size := by
  obtain ⟨h1, h2, h3, h0, h4⟩ := h
  rcases h4 with ⟨rfl, rfl⟩ | ⟨blk, off, rfl, hbk, _⟩
  · cases hL
  · cases hL; exact hbk
end

/-- One slice is handed in. -/
theorem rel_one {α : Type} {c : α → List Value} {k : Nat} {w : World} {a : Option Addr} {len cap : Nat} {l : List α} (h : Handed c k w a len cap l) (hc : ∀ y, (c y).length = k) (hflat : ∀ y ∈ l, ∀ v ∈ c y, Flat v) (C : Code → Prop) (sz : TypeId → Nat) :
    Rel (fun N => if N = 0 then argLoc k a l else none) ⟨fun k => k < w.heap.size, C, sz⟩ (Tree.leaf.set 0 (argRow c w a l)).get w := by
  refine ⟨fun _ h => h, fun N b hb => ?_, fun N N' b b' L L' hne hb hb' hL hL' hw => ?_, fun N L hL => ?_⟩
  · rw [Tree.get_set] at hb
    by_cases hN : N = 0
    · subst hN
      rw [if_pos rfl] at hb
      obtain ⟨L, h1, h2, _⟩ := h.brel hc hflat hb
      exact ⟨L, h1, h2⟩
    · rw [if_neg hN] at hb; simp [Tree.get] at hb
  · exfalso
    rw [Tree.get_set] at hb
    by_cases hN : N = 0
    · subst hN
      rw [if_pos rfl] at hb
      obtain ⟨L, _, _, h3⟩ := h.brel (φ := fun _ => none) (B := ⟨fun _ => False, C, sz⟩) hc hflat hb
      exact h3 hw
    · rw [if_neg hN] at hb; simp [Tree.get] at hb
  · split at hL
    · exact h.inw hL
    · cases hL
end Go.Ev
