/-
  EV: the reading of a law's arguments: slices of what lies in cells alone, as rows of the evaluator's heap.
-/
import Derived.Test.YtelpkdjibjddlaaEvR1
import Derived.Deep.Slices
import Derived.SizedLaws
import Derived.ChangeOld
import Derived.Test.YtelpkdjibjddlaaEvC2
import Derived.Test.YtelpkdjibjddlaaRows
import Derived.WalkKit
import Derived.ProofKit
import Derived.OpenShut
import Derived.ShutString
import Derived.Below
namespace Go.Ev
open Go Go.RowKit Go.ChangeShapes Go.WideShapes Go.Deep

/-- What is known of a slice that is handed in. -/
def Handed {α : Type} (c : α → List Value) (k : Nat) (w : World) (a : Option Addr) (len cap : Nat) (l : List α) : Prop :=
  l.length = len ∧ len < 4611686018427387904 ∧ cap < END ∧ len ≤ cap ∧ ((a = none ∧ l = []) ∨ ∃ blk off, a = some ⟨blk, off, none⟩ ∧ blk < w.heap.size ∧ ∃ cs e fz, w.heap[blk]? = some (.cells cs e fz) ∧ (l ≠ [] → off + len * k ≤ cs.size) ∧
    ∀ i y, l[i]? = some y → ∀ j v, (c y)[j]? = some v → cs[off + (i * k + j)]? = some v)

section
variable {H : Type} {enc : TypeId × Value → H} {P : Program} {w : World} {α : Type} {c : α → List Value} {k : Nat}

theorem mem_weightsAll {e : TypeId} {ds : List (DataW H)} {d : DataW H} (h : d ∈ ds) {n : Nat} (hn : n ∈ d.weights P e) : n ∈ DataW.weightsAll P e ds := by
  induction ds with
  | nil => cases h
  | cons x r ih =>
    unfold DataW.weightsAll
    rcases List.mem_cons.1 h with rfl | h
    · exact List.mem_append_left _ hn
    · exact List.mem_append_right _ (ih h)

theorem list_of {α : Type} {p : Nat → α → Prop} {n : Nat} (h : ∀ i, i < n → ∃ y, p i y) : ∃ l : List α, l.length = n ∧ ∀ i y, l[i]? = some y → p i y := by
  induction n with
  | zero => exact ⟨[], rfl, fun i y h => by simp at h⟩
  | succ n ih =>
    obtain ⟨l, hl1, hl2⟩ := ih fun i hi => h i (by omega)
    obtain ⟨y, hy⟩ := h n (by omega)
    refine ⟨l ++ [y], by simp [hl1], fun i z hz => ?_⟩
    by_cases hi : i < n
    · rw [List.getElem?_append_left (by omega)] at hz; exact hl2 i z hz
    · rw [List.getElem?_append_right (by omega)] at hz
      have : i = n := by
        rcases Nat.lt_or_ge (i - l.length) 1 with h | h
        · omega
        · rw [List.getElem?_eq_none (by simpa using h)] at hz; cases hz
      subst this
      rw [hl1, Nat.sub_self] at hz
      simp at hz
      subst hz; exact hy

theorem handed {t e : TypeId} {base b0 : Nat} {r : Reach} {a : Option Addr} {len cap : Nat} {d : DataW H} {ps : List MemPlace} (Okα : α → Prop) (ht : P.underlying t = some (.slice e)) (hk : P.cellsOf e = k) (hk0 : 0 < k) (hc : ∀ y, (c y).length = k) (hb : 0 < P.bytesOf e)
    (elt : ∀ cs n x, DataW.trod enc P w base (fun _ => true) true n e cs = some x → (∀ m ∈ x.1.weights P e, m ≤ reachBytes) → ∃ y, cs = c y ∧ Okα y)
    (hval : Value.okWide P w r b0 t (.slice a len cap)) (h : DataW.Trod enc P w base (fun _ => true) true t (.slice a len cap) d ps) (hz : ∀ m ∈ d.weights P t, m ≤ reachBytes) :
    ∃ l : List α, (∀ y ∈ l, Okα y) ∧ Handed c k w a len cap l := by
  obtain ⟨fuel, hf⟩ := h
  have hcell : Value.cells (.slice a len cap) = #[.slice a len cap] := rfl
  rw [hcell] at hf
  rcases open_slice ht hf with ⟨h0, hd⟩ | ⟨x, len', cap', m, n, D, Pl, h0, _, hl, hm, hmm, hd, hx⟩
  · simp at h0
    obtain ⟨rfl, rfl, rfl⟩ := h0
    exact ⟨[], fun _ h => (by cases h), rfl, by decide, by decide, Nat.le_refl _, .inl ⟨rfl, rfl⟩⟩
  · simp at h0
    obtain ⟨rfl, rfl, rfl⟩ := h0
    simp only [if_true] at hmm
    subst hmm
    obtain ⟨rfl, rfl⟩ := Prod.mk.inj hd
    have hcap : m * P.bytesOf e ≤ reachBytes := by
      have := hz ((len + (m - len)) * P.bytesOf e) (by simp [DataW.weights, ht])
      rwa [show len + (m - len) = m by omega] at this
    have hcapE : m ≤ reachBytes := Nat.le_trans (Nat.le_mul_of_pos_right _ hb) hcap
    have hR : reachBytes < 4611686018427387904 := by decide
    have hE : reachBytes < END := by decide
    have each : ∀ i, i < len → ∃ q : α × List Value, q.2 = c q.1 ∧ Okα q.1 ∧ w.cells? base (x.add (i * P.cellsOf e)) (P.cellsOf e) = some q.2 := fun i hi => by
      obtain ⟨cs', h1, h2⟩ := hx i (by omega)
      obtain ⟨y, hy, hok⟩ := elt _ _ _ h2 fun m' hm' => hz m' (by
        unfold DataW.weights
        simp only [ht]
        refine List.mem_cons_of_mem _ (List.mem_append_left _ (mem_weightsAll (List.mem_map.2 ⟨i, List.mem_range.2 hi, rfl⟩) hm')))
      exact ⟨(y, cs'), hy, hok, h1⟩
    have hsl : x.spot = none ∧ ∃ row cells, w.shape? x.block = some (row, cells) := by
      simp only [Value.okWide, ht, Cell.okWide, Cell.ok] at hval
      obtain ⟨_, _, _, h1, row, cells, h2, _⟩ := hval
      exact ⟨h1, row, cells, h2⟩
    obtain ⟨hspot, row, cells, hshape⟩ := hsl
    obtain ⟨blk, off, sp⟩ := x
    simp only at hspot hshape
    subst hspot
    have hblk : ∃ cs e' fz, w.heap[blk]? = some (.cells cs e' fz) := by
      unfold World.shape? at hshape
      split at hshape
      · rename_i cs e' fz hh; exact ⟨cs, e', fz, hh⟩
      · cases hshape
    obtain ⟨cs, e', fz, hh⟩ := hblk
    have hlt : blk < w.heap.size := by
      rcases Nat.lt_or_ge blk w.heap.size with h | h
      · exact h
      · rw [Array.getElem?_eq_none h] at hh; cases hh
    have hcellw : ∀ o, w.cell? ⟨blk, o, none⟩ = cs[o]? := fun o => by unfold World.cell?; simp [hh]
    have hadd : ∀ o, (Addr.mk blk off none).add o = ⟨blk, off + o, none⟩ := fun o => by
      unfold Addr.add; split
      · rename_i h; subst h; rfl
      · rfl
    have pick : ∃ l : List α, l.length = len ∧ ∀ i y, l[i]? = some y → Okα y ∧ w.cells? base ((Addr.mk blk off none).add (i * P.cellsOf e)) (P.cellsOf e) = some (c y) := by
      obtain ⟨l, g1, g2⟩ := list_of (p := fun i y => Okα y ∧ w.cells? base ((Addr.mk blk off none).add (i * P.cellsOf e)) (P.cellsOf e) = some (c y)) fun i hi => (by
        obtain ⟨⟨y, cs'⟩, h1, h2, h3⟩ := each i hi
        simp only at h1 h2 h3
        subst h1
        exact ⟨y, h2, h3⟩)
      exact ⟨l, g1, g2⟩
    obtain ⟨l, hl1, hl2⟩ := pick
    refine ⟨l, fun y hy => ?_, hl1, by omega, by omega, hl, .inr ⟨blk, off, rfl, hlt, cs, e', fz, hh, fun hne => ?_, fun i y hy j v hv => ?_⟩⟩
    · obtain ⟨i, hi⟩ := List.getElem?_of_mem hy
      exact (hl2 i y hi).1
    · have hpos : 0 < l.length := List.length_pos_iff.2 hne
      obtain ⟨y, hy⟩ := ex_at (l := l) (i := l.length - 1) (by omega)
      have := (hl2 _ y hy).2
      obtain ⟨_, hlen, hcl⟩ := World.cells?_some this
      have h1 := hcl (k - 1) (by rw [hk]; omega)
      have h2 : k - 1 < (c y).length := by rw [hc]; omega
      rw [List.getElem?_eq_getElem h2, hadd, hk] at h1
      simp only [Addr.add] at h1
      have h3 : (w.cell? ⟨blk, off + (l.length - 1) * k + (k - 1), none⟩).isSome = true := by
        split at h1
        · rename_i h0; rw [h0, Nat.add_zero, h1]; rfl
        · rw [h1]; rfl
      rw [hcellw] at h3
      obtain ⟨v, hv⟩ := Option.isSome_iff_exists.1 h3
      have h4 : off + (l.length - 1) * k + (k - 1) < cs.size := by
        rcases Nat.lt_or_ge (off + (l.length - 1) * k + (k - 1)) cs.size with h | h
        · exact h
        · rw [Array.getElem?_eq_none h] at hv; cases hv
      have h5 : len * k = (l.length - 1) * k + k := by
        rw [← Nat.succ_mul]; congr 1; omega
      omega
    · have := (hl2 i y hy).2
      obtain ⟨_, hlen, hcl⟩ := World.cells?_some this
      have hj : j < k := by
        rcases Nat.lt_or_ge j (c y).length with h | h
        · rwa [hc] at h
        · rw [List.getElem?_eq_none h] at hv; cases hv
      have h1 := hcl j (by rw [hk]; exact hj)
      rw [hv, hadd, hk] at h1
      rw [← hcellw, ← Nat.add_assoc]
      unfold Addr.add at h1
      split at h1
      · rename_i h0; rw [h0, Nat.add_zero]; exact h1
      · exact h1
end

/-! The rows of the evaluator. -/
theorem slice_flat {α : Type} {c : α → List Value} {k : Nat} (hc : ∀ y, (c y).length = k) : ∀ (l : List α) (i : Nat) (y : α), l[i]? = some y → Ev.slice (l.map c).flatten (i * k) k = some (c y)
  | [], i, y, h => by simp at h
  | x :: l, 0, y, h => by
    simp at h; subst h
    unfold Ev.slice
    have : ((c x).length) = k := hc x
    simp [this]
  | x :: l, i + 1, y, h => by
    have ih := slice_flat hc l i y (by simpa using h)
    unfold Ev.slice at ih ⊢
    have hd : ((x :: l).map c).flatten.drop ((i + 1) * k) = (l.map c).flatten.drop (i * k) := by
      simp only [List.map_cons, List.flatten_cons]
      rw [Nat.succ_mul, Nat.add_comm, ← List.drop_drop, List.drop_left' (hc x)]
    rw [hd]; exact ih
theorem flat_length {α : Type} {c : α → List Value} {k : Nat} (hc : ∀ y, (c y).length = k) : ∀ l : List α, (l.map c).flatten.length = l.length * k
  | [] => by simp
  | x :: l => by simp only [List.map_cons, List.flatten_cons, List.length_append, flat_length hc l, hc, List.length_cons, Nat.succ_mul]; omega
theorem flat_get {α : Type} {c : α → List Value} {k : Nat} (hc : ∀ y, (c y).length = k) (l : List α) {q : Nat} {v : Value} (h : (l.map c).flatten[q]? = some v) : ∃ i j y, q = i * k + j ∧ l[i]? = some y ∧ (c y)[j]? = some v := by
  induction l generalizing q with
  | nil => simp at h
  | cons x l ih =>
    simp only [List.map_cons, List.flatten_cons] at h
    by_cases hq : q < (c x).length
    · rw [List.getElem?_append_left hq] at h
      exact ⟨0, q, x, by omega, rfl, h⟩
    · rw [List.getElem?_append_right (by omega), hc] at h
      rw [hc] at hq
      obtain ⟨i, j, y, h1, h2, h3⟩ := ih h
      exact ⟨i + 1, j, y, by rw [Nat.succ_mul]; omega, by simpa using h2, h3⟩

/-- The row of a slice that is handed in; the place of its name. -/
noncomputable def argRow {α : Type} (c : α → List Value) (w : World) (a : Option Addr) (l : List α) : Option Blk := match a with
  | none => none
  | some x => match w.heap[x.block]? with
    | some (.cells _ e _) => if l.isEmpty = true then none else some (.cells (l.map c).flatten e END)
    | _ => none
def argLoc {α : Type} (k : Nat) (a : Option Addr) (l : List α) : Option Loc := match a with
  | none => none
  | some x => some ⟨x.block, x.off, l.length * k⟩
/-- The slice as the evaluator has it, under this name. -/
def argSlice (N : Nat) (a : Option Addr) : Option Addr := match a with
  | none => none
  | some _ => some ⟨N, 0, none⟩

section
variable {α : Type} {c : α → List Value} {k : Nat} {w : World} {a : Option Addr} {len cap : Nat} {l : List α}
theorem Handed.sl (h : Handed c k w a len cap l) (hc : ∀ y, (c y).length = k) {t : Tree} {n N : Nat} (ht : t.get N = argRow c w a l) (hN : N < n) : ∃ vs e, Sl c k t n (argSlice N a) l N 0 vs e END := by
  obtain ⟨h1, h2, h3, h0, h4⟩ := h
  rcases h4 with ⟨rfl, rfl⟩ | ⟨blk, off, rfl, hb, cs, e, fz, hh, _, _⟩
  · exact ⟨[], 0, fun h => absurd rfl h, fun h => absurd rfl h, fun i y h => by simp at h, by simp⟩
  · unfold argRow at ht
    simp only [hh] at ht
    refine ⟨(l.map c).flatten, e, fun _ => rfl, fun hl => ⟨?_, hN⟩, fun i y hy => by rw [Nat.zero_add]; exact slice_flat hc l i y hy, by omega⟩
    rw [if_neg (by simpa using hl)] at ht; exact ht
theorem Handed.vrel (h : Handed c k w a len cap l) {φ : Phi} {N : Nat} (hφ : φ N = argLoc k a l) : VRel φ (.slice (argSlice N a) l.length cap) (.slice a len cap) := by
  obtain ⟨h1, h2, h3, h0, h4⟩ := h
  rw [h1]
  rcases h4 with ⟨rfl, rfl⟩ | ⟨blk, off, rfl, hb, cs, e, fz, hh, _, _⟩
  · exact .sliceNil _ _ h3
  · exact VRel.sliceEx (L := ⟨blk, off, l.length * k⟩) len cap hφ h3
theorem Handed.brel (h : Handed c k w a len cap l) (hc : ∀ y, (c y).length = k) (hflat : ∀ y ∈ l, ∀ v ∈ c y, Flat v) {φ : Phi} {B : Base} {b : Blk} (hb : argRow c w a l = some b) : ∃ L, argLoc k a l = some L ∧ BRel φ B L b w ∧ ¬ wr b := by
  obtain ⟨h1, h2, h3, h0, h4⟩ := h
  rcases h4 with ⟨rfl, rfl⟩ | ⟨blk, off, rfl, hbk, cs, e, fz, hh, hsz, hget⟩
  · cases hb
  · unfold argRow at hb
    simp only [hh] at hb
    split at hb
    · cases hb
    rename_i hl
    cases hb
    refine ⟨_, rfl, ⟨cs, fz, hh, ?_, ?_, ?_, fun hlt => absurd hlt (Nat.lt_irrefl _)⟩, fun hw => absurd hw (Nat.lt_irrefl _)⟩
    · rw [flat_length hc]; exact Nat.le_refl _
    · have := hsz (by simpa using hl); simp only; rw [h1]; exact this
    · intro i v hv
      obtain ⟨p, j, y, rfl, h5, h6⟩ := flat_get hc l hv
      exact ⟨v, hget p y h5 j v h6, (hflat y (List.mem_of_getElem? h5) v (List.mem_of_getElem? h6)).vrel⟩
theorem Handed.cp (h : Handed c k w a len cap l) (N : Nat) : Cp k (argSlice N a) l.length cap := by
  obtain ⟨h1, h2, h3, h0, h4⟩ := h
  refine ⟨.inl ⟨h3, by omega⟩, ?_⟩
  cases a with
  | none => exact .inl rfl
  | some x => exact .inr ⟨N, 0, rfl⟩
theorem Handed.inw (h : Handed c k w a len cap l) {L : Loc} (hL : argLoc k a l = some L) : L.blk < w.heap.size := by
  obtain ⟨h1, h2, h3, h0, h4⟩ := h
  rcases h4 with ⟨rfl, rfl⟩ | ⟨blk, off, rfl, hbk, _⟩
  · cases hL
  · cases hL; exact hbk
end

/-- One slice is handed in. -/
theorem rel_one {α : Type} {c : α → List Value} {k : Nat} {w : World} {a : Option Addr} {len cap : Nat} {l : List α} (h : Handed c k w a len cap l) (hc : ∀ y, (c y).length = k) (hflat : ∀ y ∈ l, ∀ v ∈ c y, Flat v) (C : Code → Prop) (sz : TypeId → Nat) :
    Rel (fun N => if N = 0 then argLoc k a l else none) ⟨fun k => k < w.heap.size, C, sz⟩ (Tree.leaf.set 0 (argRow c w a l)).get w := by
  refine ⟨fun _ h => h, fun N b hb => ?_, fun N N' b b' L L' hne hb hb' hL hL' hw => ?_, fun N L hL => ?_⟩
  · rw [Tree.get_set] at hb
    by_cases hN : N = 0
    · subst hN
      rw [if_pos rfl] at hb
      obtain ⟨L, h1, h2, _⟩ := h.brel hc hflat hb
      exact ⟨L, h1, h2⟩
    · rw [if_neg hN] at hb; simp [Tree.get] at hb
  · exfalso
    rw [Tree.get_set] at hb
    by_cases hN : N = 0
    · subst hN
      rw [if_pos rfl] at hb
      obtain ⟨L, _, _, h3⟩ := h.brel (φ := fun _ => none) (B := ⟨fun _ => False, C, sz⟩) hc hflat hb
      exact h3 hw
    · rw [if_neg hN] at hb; simp [Tree.get] at hb
  · split at hL
    · exact h.inw hL
    · cases hL
end Go.Ev

/-
  What all rows of the seat need.
-/
namespace Go.Ev.R1
open Go Go.Ev Go.Proofs Go.Proofs.Ytelpkdjibjddlaa Go.ChangeShapes Go.WideShapes Go.ChangeAt Go.RowKit
open Go.ChangeMaps (open_string shut_string)
set_option maxRecDepth 100000

theorem cells97 : Try.prog.cellsOf 97 = 3 := by kernel_rfl
theorem cells3 : Try.prog.cellsOf 3 = 1 := by kernel_rfl
theorem cells9 : Try.prog.cellsOf 9 = 1 := by kernel_rfl
theorem bytes97 : 0 < Try.prog.bytesOf 97 := of_decide_eq_true (by kernel_rfl)
theorem wf64 {n : Int} (h : (Lit.int .i64 n).wf = true) : -9223372036854775808 ≤ n ∧ n < 9223372036854775808 := by
  simp [Lit.wf, IntKind.min, IntKind.max, IntKind.signed, IntKind.bits] at h
  omega
theorem eltEd {H : Type} {enc : TypeId × Value → H} {w : World} : ∀ cs n x, DataW.trod enc Try.prog w 0 (fun _ => true) true n 97 cs = some x → (∀ m ∈ x.1.weights Try.prog 97, m ≤ reachBytes) → ∃ y : Ed, cs = y.cells ∧ y.Ok := by
  intro cs n x h hz
  obtain ⟨xs, n', rfl, rfl, hcs, hxs, hf⟩ := DataW.trod_struct Try.underlying97 h
  rw [cells97] at hcs
  have g0 := hf 0 _ rfl
  have g1 := hf 1 _ rfl
  have g2 := hf 2 _ rfl
  match xs, hxs, cs, hcs with
  | [y0, y1, y2], _, [v0, v1, v2], _ =>
    simp [cells3, cells9] at g0 g1 g2
    obtain ⟨a, ha, _, wa⟩ := DataW.trod_int Try.underlying3 g0
    obtain ⟨b, hb, _, wb⟩ := DataW.trod_int Try.underlying3 g1
    obtain ⟨s, hs, h2, _⟩ := DataW.trod_string Try.underlying9 g2
    simp at ha hb hs
    subst ha hb hs
    have hlen : s.data.toList.length ≤ reachBytes := hz _ (by
      unfold DataW.weights
      simp only [Try.underlying97]
      simp [DataW.weightsEach, h2, DataW.weights])
    exact ⟨⟨a, b, s⟩, rfl, (wf64 wa).1, (wf64 wa).2, (wf64 wb).1, (wf64 wb).2, hlen⟩
theorem flatEd (l : List Ed) : ∀ y ∈ l, ∀ v ∈ y.cells, Flat v := fun y _ v hv => by
  simp [Ed.cells] at hv
  rcases hv with rfl | rfl | rfl
  · exact .int _ _
  · exact .int _ _
  · exact .string _
theorem mixed : Try.prog.follows .mixedOrders = true := by kernel_rfl

/-- A heap of so many arguments. -/
def heapOf : Nat → List (Option Blk) → Tree → Tree
  | _, [], t => t
  | i, b :: r, t => heapOf (i + 1) r (t.set i b)
theorem get_heapOf : ∀ (bs : List (Option Blk)) (i : Nat) (t : Tree) (N : Nat), (heapOf i bs t).get N = if N < i then t.get N else match bs[N - i]? with | some b => b | none => t.get N
  | [], i, t, N => by simp [heapOf]
  | b :: r, i, t, N => by
    unfold heapOf
    rw [get_heapOf r (i + 1) (t.set i b) N, Tree.get_set]
    by_cases h1 : N < i
    · rw [if_pos (by omega), if_pos h1, if_neg (by omega)]
    · by_cases h2 : N = i
      · subst h2; rw [if_pos (by omega), if_neg h1, if_pos rfl, Nat.sub_self]; rfl
      · rw [if_neg (by omega), if_neg h1, if_neg h2]
        obtain ⟨j, rfl⟩ : ∃ j, N = i + 1 + j := ⟨N - i - 1, by omega⟩
        rw [show i + 1 + j - (i + 1) = j by omega, show i + 1 + j - i = j + 1 by omega, List.getElem?_cons_succ]
def heap0 (bs : List (Option Blk)) : St := ⟨heapOf 0 bs .leaf, bs.length, []⟩
theorem alive_of {f : FuncId} {bs : List (Option Blk)} (h : (evCall T 1000 f [] (heap0 bs)).map (fun p => (p.1, p.2.mods, decide (bs.length ≤ p.2.next), (List.range bs.length).map p.2.t.get)) = some (.bool true, [], true, bs)) : EndsPure T f [] (heap0 bs) fun v _ _ => v = .bool true := by
  cases he : evCall T 1000 f [] (heap0 bs) with
  | none => rw [he] at h; cases h
  | some p =>
    obtain ⟨v, s'⟩ := p
    rw [he] at h
    simp only [Option.map_some, Option.some.injEq, Prod.mk.injEq, decide_eq_true_eq] at h
    obtain ⟨h1, h2, h3, h4⟩ := h
    refine ⟨1000, v, s', he, ⟨h3, h2, fun N hN => ?_⟩, h1⟩
    have hN : N < bs.length := hN
    have h5 : (List.range bs.length).map s'.t.get = bs := h4
    have h6 : ((List.range bs.length).map s'.t.get)[N]? = bs[N]? := by rw [h5]
    rw [List.getElem?_map, List.getElem?_range hN] at h6
    show s'.t.get N = (heapOf 0 bs .leaf).get N
    rw [get_heapOf, if_neg (by omega), Nat.sub_zero, ← h6]; rfl
end Go.Ev.R1

/-
  EV: what the functions of the layer shift compute, in plain Lean.
-/
namespace Go.Ev
open Go

theorem foldl_step {α β : Type} {f : β → α → β} {b : β} {l : List α} {i : Nat} {e : α} (he : l[i]? = some e) : (l.take (i + 1)).foldl f b = f ((l.take i).foldl f b) e := by
  rw [List.take_add_one, he]; simp [List.foldl_append]
/-- None of those before is as told. -/
def NoB {α : Type} (p : α → Prop) (l : List α) (i : Nat) : Prop := ∀ k, k < i → ∀ x, l[k]? = some x → ¬ p x
theorem NoB.zero {α : Type} {p : α → Prop} {l : List α} : NoB p l 0 := fun k hk => absurd hk (Nat.not_lt_zero k)
theorem NoB.step {α : Type} {p : α → Prop} {l : List α} {i : Nat} {e : α} (h : NoB p l i) (he : l[i]? = some e) (hn : ¬ p e) : NoB p l (i + 1) := fun k hk x hx => by
  by_cases hki : k = i
  · subst hki; rw [he] at hx; cases hx; exact hn
  · exact h k (by omega) x hx
theorem NoB.find_at {α : Type} {p : α → Prop} [DecidablePred p] {l : List α} {i : Nat} {e : α} (h : NoB p l i) (he : l[i]? = some e) (hp : p e) : l.find? (fun x => decide (p x)) = some e := by
  induction l generalizing i with
  | nil => simp at he
  | cons x l ih =>
    cases i with
    | zero => simp at he; subst he; simp [hp]
    | succ i =>
      have hx : ¬ p x := h 0 (by omega) x rfl
      rw [List.find?_cons_of_neg (by simpa using hx)]
      exact ih (i := i) (fun k hk y hy => h (k + 1) (by omega) y (by simpa using hy)) (by simpa using he)
theorem NoB.find_none {α : Type} {p : α → Prop} [DecidablePred p] {l : List α} {i : Nat} (h : NoB p l i) (hi : l.length ≤ i) : l.find? (fun x => decide (p x)) = none := by
  rw [List.find?_eq_none]
  intro x hx
  obtain ⟨k, hk⟩ := List.getElem?_of_mem hx
  obtain ⟨hl, _⟩ := List.getElem?_eq_some_iff.1 hk
  simpa using h k (by omega) x hk
theorem NoB.idx_at {α : Type} {p : α → Prop} [DecidablePred p] {l : List α} {i : Nat} {e : α} (h : NoB p l i) (he : l[i]? = some e) (hp : p e) : l.findIdx? (fun x => decide (p x)) = some i := by
  obtain ⟨hi, rfl⟩ := List.getElem?_eq_some_iff.1 he
  rw [List.findIdx?_eq_some_iff_getElem]
  refine ⟨hi, decide_eq_true hp, fun j hj => ?_⟩
  have := h j hj l[j] (List.getElem?_eq_getElem (by omega))
  simpa using this
theorem NoB.idx_none {α : Type} {p : α → Prop} [DecidablePred p] {l : List α} {i : Nat} (h : NoB p l i) (hi : l.length ≤ i) : l.findIdx? (fun x => decide (p x)) = none := by
  rw [List.findIdx?_eq_none_iff]
  intro x hx
  obtain ⟨k, hk⟩ := List.getElem?_of_mem hx
  obtain ⟨hl, _⟩ := List.getElem?_eq_some_iff.1 hk
  exact decide_eq_false (h k (by omega) x hk)

theorem Sl.ixI {α : Type} {c : α → List Value} {k : Nat} {a : Option Addr} {l : List α} {N o e hi : Nat} {vs : List Value} {t : Tree} {n : Nat} (h : Sl c k t n a l N o vs e hi) {T : Tab} {ty el : TypeId} (hu : T.und ty = some (.slice el)) (hs : T.size el = some k) {i : Nat} {q : Int} (hq : (i : Int) = q) {x : α} (hx : l[i]? = some x) (cap : Nat) : indexAddr T ty (.slice a l.length cap) (.int .i64 q) = some (.pointer (some ⟨N, o + i * k, none⟩)) := by
  rw [← hq]; exact h.ix hu hs hx cap
/-- Errors as numbers. -/
def errV (c : Int) : Value := if c = 0 then .nilIface else .iface 37 (.int .i64 c)
theorem errV0 : errV 0 = .nilIface := rfl

/-- A run of bytes that go together. -/
structure Run where
  fr : Int
  to : Int
  by' : Int
abbrev Run.cells (r : Run) : List Value := [.int .i64 r.fr, .int .i64 r.to, .int .i64 r.by']
theorem Run.one : ∀ y : Run, ∀ v ∈ y.cells, oneCell v = true := by intro y v hv; simp at hv; rcases hv with rfl | rfl | rfl <;> rfl
def runStep (p : List Run × Int × Int) (e : Ed) : List Run × Int × Int := (p.1 ++ [⟨p.2.1, e.lo, p.2.2⟩], e.hi, W (p.2.2 + W ((((B e.tx).length : Nat) : Int) - W (e.hi - e.lo))))
def runF (l : List Ed) : List Run × Int × Int := l.foldl runStep ([], 0, 0)
theorem runF_step {l : List Ed} {i : Nat} {e : Ed} (he : l[i]? = some e) : runF (l.take (i + 1)) = runStep (runF (l.take i)) e := foldl_step he
theorem runF_len : ∀ (l : List Ed) (p : List Run × Int × Int), (l.foldl runStep p).1.length = p.1.length + l.length
  | [], p => by simp
  | e :: l, p => by simp [runF_len l, runStep]; omega
theorem runF_len' {l : List Ed} {i : Nat} (hi : i ≤ l.length) : (runF (l.take i)).1.length = i := by
  unfold runF; rw [runF_len]; simp; omega
def runsS (l : List Ed) (n : Int) : List Run := (runF l).1 ++ [⟨(runF l).2.1, n, (runF l).2.2⟩]
theorem runsS_len (l : List Ed) (n : Int) : (runsS l n).length = l.length + 1 := by
  unfold runsS runF; rw [List.length_append, runF_len]; simp
abbrev InR (q : Int) (r : Run) : Prop := r.fr ≤ q ∧ q < r.to
abbrev InC (q : Int) (r : Run) : Prop := W (r.fr + r.by') ≤ q ∧ q < W (r.to + r.by')
def goS (l : List Ed) (n q : Int) : Int × Int := match (runsS l n).find? (fun r => decide (InR q r)) with
  | some r => (W (q + r.by'), 0)
  | none => (0, 5)
def caS (l : List Ed) (n q : Int) : Int × Int := match (runsS l n).find? (fun r => decide (InC q r)) with
  | some r => (W (q - r.by'), 0)
  | none => (0, 5)
theorem goS_at {l : List Ed} {n q : Int} {i : Nat} {r : Run} (h : NoB (InR q) (runsS l n) i) (he : (runsS l n)[i]? = some r) (hp : InR q r) : goS l n q = (W (q + r.by'), 0) := by
  unfold goS; rw [h.find_at he hp]
theorem goS_none {l : List Ed} {n q : Int} {i : Nat} (h : NoB (InR q) (runsS l n) i) (hi : (runsS l n).length ≤ i) : goS l n q = (0, 5) := by
  unfold goS; rw [h.find_none hi]
theorem caS_at {l : List Ed} {n q : Int} {i : Nat} {r : Run} (h : NoB (InC q) (runsS l n) i) (he : (runsS l n)[i]? = some r) (hp : InC q r) : caS l n q = (W (q - r.by'), 0) := by
  unfold caS; rw [h.find_at he hp]
theorem caS_none {l : List Ed} {n q : Int} {i : Nat} (h : NoB (InC q) (runsS l n) i) (hi : (runsS l n).length ≤ i) : caS l n q = (0, 5) := by
  unfold caS; rw [h.find_none hi]

/-- Where new bytes stand. -/
structure Sp where
  a : Int
  b : Int
abbrev Sp.cells (r : Sp) : List Value := [.int .i64 r.a, .int .i64 r.b]
theorem Sp.one : ∀ y : Sp, ∀ v ∈ y.cells, oneCell v = true := by intro y v hv; simp at hv; rcases hv with rfl | rfl <;> rfl
def spanStep (p : List Sp × Int) (e : Ed) : List Sp × Int := (p.1 ++ [⟨W (e.lo + p.2), W (W (e.lo + p.2) + (((B e.tx).length : Nat) : Int))⟩], W (p.2 + W ((((B e.tx).length : Nat) : Int) - W (e.hi - e.lo))))
def spanF (l : List Ed) : List Sp × Int := l.foldl spanStep ([], 0)
def spansS (l : List Ed) : List Sp := (spanF l).1
theorem spanF_step {l : List Ed} {i : Nat} {e : Ed} (he : l[i]? = some e) : spanF (l.take (i + 1)) = spanStep (spanF (l.take i)) e := foldl_step he
theorem spanF_len : ∀ (l : List Ed) (p : List Sp × Int), (l.foldl spanStep p).1.length = p.1.length + l.length
  | [], p => by simp
  | e :: l, p => by simp [spanF_len l, spanStep]; omega
theorem spanF_len' {l : List Ed} {i : Nat} (hi : i ≤ l.length) : (spanF (l.take i)).1.length = i := by
  unfold spanF; rw [spanF_len]; simp; omega
theorem spanF_by {l : List Ed} : ∀ {i : Nat}, i ≤ l.length → (spanF (l.take i)).2 = W (growS (l.take i))
  | 0, _ => rfl
  | i + 1, h => by
    obtain ⟨e, he⟩ := ex_at (l := l) (i := i) (by omega)
    rw [spanF_step he, growS_step he]
    show W ((spanF (l.take i)).2 + _) = _
    rw [spanF_by (by omega)]
    simp only [W_def]
    omega

/-- Whence each byte came. -/
def upTo (a b : Int) : List Int := (List.range (b - a).toNat).map fun k : Nat => a + (k : Int)
theorem upTo_self (a : Int) : upTo a a = [] := by simp [upTo]
theorem upTo_succ {a b : Int} (h : a ≤ b) : upTo a (b + 1) = upTo a b ++ [b] := by
  unfold upTo
  rw [show (b + 1 - a).toNat = (b - a).toNat + 1 by omega, List.range_succ, List.map_append]
  simp
  omega
theorem upTo_len {a b : Int} : (upTo a b).length = (b - a).toNat := by simp [upTo]
def fromStep (p : List Int × Int) (e : Ed) : List Int × Int := (p.1 ++ upTo p.2 e.lo ++ List.replicate (B e.tx).length (-1), e.hi)
def fromF (l : List Ed) : List Int × Int := l.foldl fromStep ([], 0)
def fromS (l : List Ed) (n : Int) : List Int := (fromF l).1 ++ upTo (fromF l).2 n
theorem fromF_step {l : List Ed} {i : Nat} {e : Ed} (he : l[i]? = some e) : fromF (l.take (i + 1)) = fromStep (fromF (l.take i)) e := foldl_step he
def intCells (x : Int) : List Value := [.int .i64 x]
theorem intOne : ∀ y : Int, ∀ v ∈ intCells y, oneCell v = true := by intro y v hv; simp [intCells] at hv; subst hv; rfl
def rgoS (l : List Ed) (n q : Int) : Int × Int := match (fromS l n).findIdx? (fun x => decide (x = q ∧ 0 ≤ q)) with
  | some i => ((i : Int), 0)
  | none => (0, 5)
def rcaS (l : List Ed) (n q : Int) : Int × Int := if q < 0 then (0, 5) else match (fromS l n)[q.toNat]? with
  | some x => if x < 0 then (0, 5) else (x, 0)
  | none => (0, 5)
abbrev Large3 (n : Int) (l : List Ed) : Prop := 31 < l.length ∨ 500 < sumT l ∨ 500 < n
end Go.Ev

/-
  EV: the rules of a printed walk, fourth part: texts, functions that write what was their caller's, Builders.
-/
namespace Go.Ev
open Go Go.RowKit

/-- A part of a text. -/
def sub (x : ByteArray) (l h : Nat) : ByteArray := ⟨⟨((B x).drop l).take (h - l)⟩⟩
theorem B_sub (x : ByteArray) (l h : Nat) : B (sub x l h) = ((B x).drop l).take (h - l) := rfl
theorem sub_len {x : ByteArray} {l h : Nat} (h1 : l ≤ h) (h2 : h ≤ (B x).length) : (B (sub x l h)).length = h - l := by
  rw [B_sub, List.length_take, List.length_drop]; omega
theorem B_inj {x y : ByteArray} (h : B x = B y) : x = y := by
  obtain ⟨⟨x⟩⟩ := x
  obtain ⟨⟨y⟩⟩ := y
  have : x = y := h
  rw [this]

section
variable {T : Tab} {ρ : Operand → Value} {s : St}
theorem p_sub {ty : TypeId} {x lo hi : Operand} {t : ByteArray} {a b : Int} (hu : T.und ty = some .string) (hx : ρ x = .string t) (hlo : ρ lo = .int .i64 a) (hhi : ρ hi = .int .i64 b) (h0 : 0 ≤ a) (h1 : a ≤ b) (h2 : b ≤ ((B t).length : Int)) :
    evPlain T ρ (.slice ty x (some lo) (some hi) none) s = some (.string (sub t a.toNat b.toNat), s) := by
  unfold evPlain
  simp only [Option.isSome_none, Bool.false_and, Bool.false_eq_true, if_false, Option.map_some, Option.map_none, hx, hlo, hhi]
  unfold sliceOp
  simp only [hu, bound, if_pos h0, if_pos (Int.le_trans h0 h1)]
  rw [if_pos ⟨rfl, by omega, by show b.toNat ≤ (B t).length; omega⟩]
  rfl
theorem p_subTo {ty : TypeId} {x hi : Operand} {t : ByteArray} {b : Int} (hu : T.und ty = some .string) (hx : ρ x = .string t) (hhi : ρ hi = .int .i64 b) (h1 : 0 ≤ b) (h2 : b ≤ ((B t).length : Int)) :
    evPlain T ρ (.slice ty x none (some hi) none) s = some (.string (sub t 0 b.toNat), s) := by
  unfold evPlain
  simp only [Option.isSome_none, Bool.false_and, Bool.false_eq_true, if_false, Option.map_some, Option.map_none, hx, hhi]
  unfold sliceOp
  simp only [hu, bound, if_pos h1]
  rw [if_pos ⟨rfl, Nat.zero_le _, by show b.toNat ≤ (B t).length; omega⟩]
  rfl
theorem p_subFrom {ty : TypeId} {x lo : Operand} {t : ByteArray} {a : Int} (hu : T.und ty = some .string) (hx : ρ x = .string t) (hlo : ρ lo = .int .i64 a) (h0 : 0 ≤ a) (h2 : a ≤ ((B t).length : Int)) :
    evPlain T ρ (.slice ty x (some lo) none none) s = some (.string (sub t a.toNat (B t).length), s) := by
  unfold evPlain
  simp only [Option.isSome_none, Bool.false_and, Bool.false_eq_true, if_false, Option.map_some, Option.map_none, hx, hlo]
  unfold sliceOp
  simp only [hu, bound, if_pos h0]
  rw [if_pos ⟨rfl, by show a.toNat ≤ (B t).length; omega, Nat.le_refl _⟩]
  rfl
end

/-! Functions that write what their caller has laid. -/
theorem Own.trim {s0 s s1 : St} (h0 : Own s0 s) (h : Own s0 s1) (hx : s.next ≤ s1.next) : Own s0 { s1 with mods := Ev.newMods s s1 ++ s.mods } := by
  obtain ⟨q, h1, h2⟩ := h.mods
  obtain ⟨p, h3, h4⟩ := h0.mods
  refine ⟨h.next, ⟨Ev.newMods s s1 ++ p, by simp only [h3, List.append_assoc], fun N hN => ?_⟩, h.old⟩
  rcases List.mem_append.1 hN with hN | hN
  · unfold Ev.newMods at hN
    obtain ⟨hN, _⟩ := List.mem_filter.1 hN
    rw [h1, h3, List.length_append, List.length_append, List.take_append_of_le_length (by omega)] at hN
    exact h2 N (List.mem_of_mem_take hN)
  · have := h4 N hN; simp only; omega

/-- A call of a function that writes nothing of what lay before 's0': what it gives. -/
def EndsOn (T : Tab) (f : FuncId) (args : List Value) (s0 s : St) (R : Value → Tree → Nat → Prop) : Prop := EndsCall T f args s fun v s' => Own s0 s' ∧ s.next ≤ s'.next ∧ R v s'.t s'.next
def FinOn (s0 s : St) (rs : List Tmp) (R : Value → Tree → Nat → Prop) (e : Ex) (fr : Fr) (s1 : St) : Prop := isExit e = false ∧ fr.defers = [] ∧ (Own s0 s1 ∧ s.next ≤ s1.next) ∧ R (valOf (rs.map (fr.tmps.getD · undef))) s1.t s1.next

section
variable {T : Tab} {fr : Fr} {s s0 : St} {ops : Array Oper} {o : Oper} {os : List Oper} {Q : Fr → St → Prop}
theorem EndsOn.of {f : FuncId} {n : Nat} {body : Code} {rs : List Tmp} {args : List Value} {fr0 : Fr} {R : Value → Tree → Nat → Prop} (hF : T.fn f = some ⟨n, body, rs.map ResultVar.tmp⟩) (h0 : (⟨args ++ List.replicate (n - args.length) undef, []⟩ : Fr) = fr0) (hO : Own s0 s)
    (h : Ends T ⟨f, none⟩ body fr0 s (FinOn s0 s rs R)) : EndsOn T f args s0 s R :=
  EndsCall.of1 hF h0 (h.mono fun e fr s1 ⟨h1, h2, h3, h4⟩ => ⟨h1, h2, hO.trim h3.1 h3.2, h3.2, h4⟩)
theorem EndsOn.mono {f : FuncId} {args : List Value} {R R' : Value → Tree → Nat → Prop} (h : EndsOn T f args s0 s R) (hr : ∀ v t n, R v t n → R' v t n) : EndsOn T f args s0 s R' := EndsCall.mono h fun _ _ ⟨h1, h2, h3⟩ => ⟨h1, h2, hr _ _ _ h3⟩
/-- A call of such a function. -/
theorem W.callOn {f : Operand} {args : Array Operand} {ts : Array TypeId} {g : FuncId} {ar : List Value} {R : Value → Tree → Nat → Prop} {fF : Value → Fr} (hw : Region.wanted o (yieldedL ops fr.tmps) = true) (ho : o.op = .call ⟨.value f, args, ts⟩)
    (hf : fr.eval f = .func (.func g) #[] #[]) (ha : args.toList.map fr.eval = ar) (hR : EndsOn T g ar s0 s R) (hp : ∀ v, fr.put o.dst v = fF v) (h : ∀ v s1, R v s1.t s1.next → Own s0 s1 → s.next ≤ s1.next → EndsOps T ops os (fF v) s1 Q) : EndsOps T ops (o :: os) fr s Q := by
  refine EndsOps.call1 hw ho hf rfl (R := fun v s' => Own s0 s' ∧ s.next ≤ s'.next ∧ R v s'.t s'.next) ?_ fun v s1 ⟨hk, hn, hv⟩ => by rw [hp]; exact h v s1 hv hk hn
  simp only [List.nil_append, List.append_nil, ha]; exact hR
end

/-! Bytes. -/
def byteCell (b : UInt8) : List Value := [.int .u8 b.toNat]
theorem byteOne : ∀ y : UInt8, ∀ v ∈ byteCell y, oneCell v = true := by intro y v hv; simp [byteCell] at hv; subst hv; rfl
theorem byteVals_flat (l : List UInt8) : byteVals l = (l.map byteCell).flatten := by
  unfold byteVals
  induction l with
  | nil => rfl
  | cons a r ih => simp only [List.map_cons, List.flatten_cons, ih]; rfl
theorem bytesOf_flat : ∀ l : List UInt8, bytesOf ((l.map byteCell).flatten) = some l
  | [] => rfl
  | b :: r => by
    show (bytesOf ((r.map byteCell).flatten)).map (UInt8.ofNat (Int.toNat (b.toNat : Int)) :: ·) = _
    rw [bytesOf_flat r]; simp
/-- The rows of all other types stay. -/
def Oth (X : TypeId → Bool) (s s' : St) : Prop := ∀ M vs e hi, Row s.t s.next M vs e hi → X e = false → Row s'.t s'.next M vs e hi
theorem Oth.refl (X : TypeId → Bool) (s : St) : Oth X s s := fun _ _ _ _ h _ => h
theorem Oth.trans {X : TypeId → Bool} {a b c : St} (h : Oth X a b) (k : Oth X b c) : Oth X a c := fun M vs e hi r hx => k M vs e hi (h M vs e hi r hx) hx
theorem Oth.own {X : TypeId → Bool} {a b c : St} (h : Oth X a b) (k : Own b c) : Oth X a c := fun M vs e hi r hx => (h M vs e hi r hx).own k
theorem Row.ne {t : Tree} {n N M e e' hi hi' : Nat} {vs vs' : List Value} (r : Row t n N vs e hi) (r' : Row t n M vs' e' hi') (h : e ≠ e') : N ≠ M := by
  intro hN; subst hN; have := r.get.symm.trans r'.get; cases this; exact h rfl
theorem Oth.upd {X : TypeId → Bool} {a b c : St} {N e hi : Nat} {vs : List Value} (h : Oth X a b) (r : Row b.t b.next N vs e hi) (hX : X e = true) (hn : c.next = b.next) (hu : ∀ M, M ≠ N → c.t.get M = b.t.get M) : Oth X a c := fun M vs' e' hi' r' hx => by
  have h1 := h M vs' e' hi' r' hx
  exact h1.upd hn hu (h1.ne r (fun he => by subst he; rw [hX] at hx; cases hx))

section
variable {T : Tab} {fr : Fr} {s s0 : St} {ops : Array Oper} {o : Oper} {os : List Oper} {Q : Fr → St → Prop}
/-- A function without a Go body that gives its argument back. -/
theorem endsExt {f : FuncId} {g : List Value → Option Value} {x y : Value} (hf : T.fn f = none) (hg : T.ext f = some g) (h : g [x] = some y) : EndsPure T f [x] s fun v _ _ => v = y := by
  refine ⟨0, y, s, ?_, Keep.refl s, rfl⟩
  unfold evCall enter
  simp only [hf, hg, lift, h]
theorem p_toU {ρ : Operand → Value} {a b t e hi n k N p : Nat} {vs : List Value} {x : Operand} (ha : T.und a = some (.pointer t)) (hb : T.und b = some .unsafePointer) (hs : T.size t = some (k + 1)) (hx : ρ x = .pointer (some ⟨N, p, none⟩)) (r : Row s.t n N vs e hi) (hp : p < vs.length) :
    evPlain T ρ (.convert a b x) s = some (.pointer (some ⟨N, p, none⟩), s) := by
  unfold evPlain
  simp only [hx, convert, ha, hb, convertD, toUnsafe, hs, bnd, rowOf, r.get, if_pos hp, ret]
theorem p_fromU {ρ : Operand → Value} {a b t hi n k N : Nat} {vs : List Value} {x : Operand} (ha : T.und a = some .unsafePointer) (hb : T.und b = some (.pointer t)) (hs : T.size t = some (k + 1)) (hx : ρ x = .pointer (some ⟨N, 0, none⟩)) (r : Row s.t n N vs t hi) (hh : hi < END) (hp : k < vs.length) :
    evPlain T ρ (.convert a b x) s = some (.pointer (some ⟨N, 0, none⟩), s) := by
  unfold evPlain
  simp only [hx, convert, ha, hb, convertD, fromUnsafe, hs, bnd, rowOf, r.get]
  rw [if_pos ⟨trivial, hh, Nat.zero_mod _, by omega⟩]; rfl
/-- An append of a text's bytes. -/
theorem W.appendStr {X : TypeId → Bool} {b : Nat} {el sT xT : TypeId} {l : List UInt8} {x : ByteArray} {v : Value} {p q : Operand} {fF : Value → Fr} (A : AppOk T sT xT el 1 b) (hO : Own s0 s) (hX : X el = true) (hl : OL byteCell 1 el s0.next s.t s.next v l) (hv : l = [] → v = .slice none 0 0)
    (hw : Region.wanted o (yieldedL ops fr.tmps) = true) (ho : o.op = .call ⟨.builtin .append, #[p, q], #[sT, xT]⟩) (hp : fr.eval p = v) (hq : fr.eval q = .string x) (hb : (l.length + (Ev.B x).length) * b ≤ 140737488355328)
    (hf : ∀ v', fr.put o.dst v' = fF v')
    (h : ∀ v' s1, Own s0 s1 → s.next ≤ s1.next → Oth X s s1 → OL byteCell 1 el s0.next s1.t s1.next v' (l ++ Ev.B x) → (l ++ Ev.B x = [] → v' = .slice none 0 0) → EndsOps T ops os (fF v') s1 Q) (hb0 : 0 < b) : EndsOps T ops (o :: os) fr s Q := by
  have hc' : noCall o.op = true := by rw [ho]; rfl
  have hbb : l.length + (Ev.B x).length ≤ 140737488355328 := Nat.le_trans (Nat.le_mul_of_pos_right _ hb0) hb
  have hfc : firstCells (Ev.B x).length 1 (.string x) s = some (((Ev.B x).map byteCell).flatten, s) := by
    unfold firstCells
    simp only [ret]
    rw [show x.data.toList.take (Ev.B x).length = Ev.B x from List.take_length, byteVals_flat]
  obtain ⟨v', s1, e1, e2', e3, e4, e5⟩ := append_run A (fun _ => rfl) byteOne hl hO.next (xs := .string x) (ys := Ev.B x) rfl hfc hb (by omega)
  have hnil : l ++ Ev.B x = [] → v' = .slice none 0 0 := fun h0 => by
    obtain ⟨h1, h2⟩ := List.append_eq_nil_iff.1 h0
    have hv0 := hv h1
    subst hv0
    obtain ⟨z, hz, _⟩ := A.zero
    have e6 : Ev.append T [sT, xT] [.slice none 0 0, .string x] s = some (.slice none 0 0, s) := by
      unfold Ev.append
      simp only [A.und, A.arg]
      unfold appendOf
      have hl0 : x.data.toList.length = 0 := by have : (Ev.B x).length = 0 := by rw [h2]; rfl
                                                exact this
      simp only [bnd, lift, A.size, A.bytes, hz, lenOf, hl0, firstCells, ret]
      rw [if_neg (by decide), if_pos (by decide)]
      rfl
    rw [e6] at e1; cases e1; rfl
  refine EndsOps.plain1 hw (v := v') (s1 := s1) ?_ (noCall_ne hc') (hf v') (h v' s1 (Own.append hO hl (Nat.le_refl _) e2' e4 e5) e2' (fun M vs e hi r hx => ⟨(e5 M r.lt fun ⟨len, cap, he, hcap⟩ => ?_).trans r.get, Nat.lt_of_lt_of_le r.lt e2'⟩) e3 hnil)
  · rw [ho]
    show Ev.append T [sT, xT] [fr.eval p, fr.eval q] s = _
    rw [hp, hq]; exact e1
  · obtain ⟨_, hl2⟩ := hl
    rcases hl2 with ⟨_, a, h, _⟩ | ⟨N, h, hr, hN⟩
    · rw [he] at h; cases h; exact absurd hcap (by decide)
    · rw [he] at h; cases h
      have := r.get.symm.trans hr.get
      cases this; rw [hX] at hx; cases hx
end

theorem OL.oth {α : Type} {c : α → List Value} {k : Nat} {el : TypeId} {lo : Nat} {v : Value} {l : List α} {X : TypeId → Bool} {s s' : St} (h : OL c k el lo s.t s.next v l) (w : Oth X s s') (hX : X el = false) : OL c k el lo s'.t s'.next v l := by
  obtain ⟨h1, h2⟩ := h
  rcases h2 with h | ⟨N, h2, h3, h4⟩
  · exact ⟨h1, .inl h⟩
  · exact ⟨h1, .inr ⟨N, h2, w _ _ _ _ h3 hX, h4⟩⟩

/-! Builders. -/
/-- A Builder at this name that has these bytes; its own type, its bytes' type. -/
def Bd (bT uT lo : Nat) (t : Tree) (n : Nat) (N : Nat) (x : List UInt8) : Prop :=
  lo ≤ N ∧ ∃ p v, Row t n N [p, v] bT 0 ∧ (p = .pointer none ∨ p = .pointer (some ⟨N, 0, none⟩)) ∧ OL byteCell 1 uT lo t n v x ∧ (x = [] → v = .slice none 0 0)

theorem Oth.weak {X Y : TypeId → Bool} {s s' : St} (h : Oth X s s') (hw : ∀ e, Y e = false → X e = false) : Oth Y s s' := fun M vs e hi r hx => h M vs e hi r (hw e hx)

section
variable {T : Tab} {fr : Fr} {s : St} {ops : Array Oper} {bef : List Nat} {i : Nat} {o : Oper} {os : List Oper} {ds : List (Nat × Did)} {Q : Fr → St → Prop}
/-- An operation without memory, whatever those before have done. -/
theorem EndsDraw.still0 {v : Value} {fr1 : Fr} (hw : Region.wanted o (yieldedL ops fr.tmps) = true) (hk : kindOf o = 0) (hc : noCall o.op = true)
    (hp : evPlain T fr.eval o.op ⟨.leaf, s.next, []⟩ = some (v, ⟨.leaf, s.next, []⟩)) (hf : fr.put o.dst v = fr1) (h : EndsDraw T ops bef (i + 1) os ((i, ⟨0, blkOf fr o, s.next, s.next, []⟩) :: ds) fr1 s Q) : EndsDraw T ops bef i (o :: os) ds fr s Q := by
  obtain ⟨k, fr', s', h1, h2⟩ := h
  refine ⟨k, fr', s', ?_, h2⟩
  unfold evDraw
  rw [if_pos hw]
  have e : evOp T (evCode T k) fr o = evPlain T fr.eval o.op := by
    unfold evOp
    split
    · rename_i f args ts hop; exact absurd hop (noCall_ne hc _ _ _)
    · rfl
  have hok : drawOk (bef.getD i 0) ds .leaf ⟨0, blkOf fr o, s.next, s.next, []⟩ = true := by
    generalize bef.getD i 0 = bits
    have h3 : (ds.all fun p => bits.testBit p.1 || okPair p.2 ⟨0, blkOf fr o, s.next, s.next, []⟩) = true := List.all_eq_true.2 fun p hp => by simp [okPair, okOne]
    unfold drawOk
    rw [h3]; simp
  have e1 : drawOne T (evCode T k) (bef.getD i 0) ds fr o s = some ((v, ⟨0, blkOf fr o, s.next, s.next, []⟩), s) := by
    unfold drawOne
    have hv : viewOf 0 (blkOf fr o) (hiddenOf (bef.getD i 0) ds) s.t = .leaf := rfl
    simp only [hv, e, hp, hk, outer, List.filter_nil, hok, if_true, Nat.sub_self, giveRange, giveBack, List.nil_append]
  simp only [bnd, e1, hf]; exact h1
/-- An operation of the third kind that writes nothing. -/
theorem EndsDraw.write0 {v : Value} {fr1 : Fr} (hw : Region.wanted o (yieldedL ops fr.tmps) = true) (hk : kindOf o = 3) (hc : noCall o.op = true) (hb : blkOf fr o = 0) (hh : hiddenOf (bef.getD i 0) ds = []) (hpairs : (ds.all fun p => (bef.getD i 0).testBit p.1) = true)
    (hp : evPlain T fr.eval o.op ⟨s.t, s.next, []⟩ = some (v, ⟨s.t, s.next, []⟩)) (hf : fr.put o.dst v = fr1) (h : EndsDraw T ops bef (i + 1) os ((i, ⟨3, 0, s.next, s.next, []⟩) :: ds) fr1 s Q) : EndsDraw T ops bef i (o :: os) ds fr s Q := by
  obtain ⟨k, fr', s', h1, h2⟩ := h
  refine ⟨k, fr', s', ?_, h2⟩
  unfold evDraw
  rw [if_pos hw]
  have e : evOp T (evCode T k) fr o = evPlain T fr.eval o.op := by
    unfold evOp
    split
    · rename_i f args ts hop; exact absurd hop (noCall_ne hc _ _ _)
    · rfl
  have hv : viewOf 3 0 [] s.t = s.t := rfl
  have hok : drawOk (bef.getD i 0) ds s.t ⟨3, 0, s.next, s.next, []⟩ = true := by
    revert hpairs
    generalize bef.getD i 0 = bits
    intro hpairs
    have h3 : (ds.all fun p => bits.testBit p.1 || okPair p.2 ⟨3, 0, s.next, s.next, []⟩) = true := List.all_eq_true.2 fun p hp => by
      have := List.all_eq_true.1 hpairs p hp; rw [this]; rfl
    unfold drawOk
    rw [h3]; simp
  have e1 : drawOne T (evCode T k) (bef.getD i 0) ds fr o s = some ((v, ⟨3, 0, s.next, s.next, []⟩), s) := by
    unfold drawOne
    simp only [hk, hb, hh, hv, e, hp, outer, List.filter_nil, hok, if_true, Nat.sub_self, giveRange, giveBack, List.nil_append]
  simp only [bnd, e1, hf]; exact h1
/-- An operation that writes one block that lay there before, ordered with all before it. -/
theorem EndsDraw.write {v : Value} {fr1 : Fr} {N : Nat} {b : Blk} (hw : Region.wanted o (yieldedL ops fr.tmps) = true) (hk : kindOf o = 3) (hc : noCall o.op = true) (hb : blkOf fr o = 0) (hh : hiddenOf (bef.getD i 0) ds = []) (hpairs : (ds.all fun p => (bef.getD i 0).testBit p.1) = true)
    (hp : evPlain T fr.eval o.op ⟨s.t, s.next, []⟩ = some (v, ⟨s.t.set N (some b), s.next, [N]⟩)) (hN : N < s.next) (hs : (s.t.get N).isSome = true) (hf : fr.put o.dst v = fr1)
    (h : ∀ s1 : St, s1.next = s.next → s1.mods = N :: s.mods → s1.t.get N = some b → (∀ M, M ≠ N → s1.t.get M = s.t.get M) → EndsDraw T ops bef (i + 1) os ((i, ⟨3, 0, s.next, s.next, [N]⟩) :: ds) fr1 s1 Q) : EndsDraw T ops bef i (o :: os) ds fr s Q := by
  have ho : outer s.next ⟨s.t.set N (some b), s.next, [N]⟩ = [N] := by
    unfold outer; simp [hN]
  obtain ⟨k, fr', s', h1, h2⟩ := h ⟨giveBack [N] (s.t.set N (some b)) s.t, s.next, N :: s.mods⟩ rfl rfl (by
      show (s.t.set N ((s.t.set N (some b)).get N)).get N = _
      rw [Tree.get_set_same, Tree.get_set_same]) (fun M hM => by
      show (s.t.set N ((s.t.set N (some b)).get N)).get M = _
      rw [Tree.get_set_ne _ _ hM])
  refine ⟨k, fr', s', ?_, h2⟩
  unfold evDraw
  rw [if_pos hw]
  have e : evOp T (evCode T k) fr o = evPlain T fr.eval o.op := by
    unfold evOp
    split
    · rename_i f args ts hop; exact absurd hop (noCall_ne hc _ _ _)
    · rfl
  have hv : viewOf 3 0 [] s.t = s.t := rfl
  have hok : drawOk (bef.getD i 0) ds s.t ⟨3, 0, s.next, s.next, [N]⟩ = true := by
    revert hpairs
    generalize bef.getD i 0 = bits
    intro hpairs
    have h3 : (ds.all fun p => bits.testBit p.1 || okPair p.2 ⟨3, 0, s.next, s.next, [N]⟩) = true := List.all_eq_true.2 fun p hp => by
      have := List.all_eq_true.1 hpairs p hp; rw [this]; rfl
    unfold drawOk
    rw [h3]; simp [hN, hs]
  have e1 : drawOne T (evCode T k) (bef.getD i 0) ds fr o s = some ((v, ⟨3, 0, s.next, s.next, [N]⟩), ⟨giveBack [N] (s.t.set N (some b)) s.t, s.next, N :: s.mods⟩) := by
    unfold drawOne
    simp only [hk, hb, hh, hv, e, hp, ho, hok, if_true, Nat.sub_self, giveRange, List.cons_append, List.nil_append]
  simp only [bnd, e1, hf]; exact h1
end
end Go.Ev

/-
  EV: the rules of a printed walk, fifth part: drawn regions that lay blocks and write.
-/
namespace Go.Ev
open Go Go.RowKit

/-- An append to a row whose end isn't known strikes its old name. -/
theorem append_all {α : Type} {c : α → List Value} {k : Nat} {el sT xT : TypeId} {b lo : Nat} {T : Tab} (A : AppOk T sT xT el k b) (hc : ∀ y, (c y).length = k) (h1 : ∀ y, ∀ v ∈ c y, oneCell v = true) {v xs v' : Value} {l ys : List α} {s s1 : St} (hl : OL c k el lo s.t s.next v l)
    (hx1 : lenOf xs = some ys.length) (hx2 : firstCells ys.length k xs s = some ((ys.map c).flatten, s)) (hb : (l.length + ys.length) * b ≤ 140737488355328) (hb2 : l.length + ys.length < 4611686018427387904)
    (h : Ev.append T [sT, xT] [v, xs] s = some (v', s1)) : ∀ M, Struck v M → M ∈ s1.mods := by
  intro M ⟨len, cap, e, hcap⟩
  obtain ⟨z, hz, hzk⟩ := A.zero
  have hall : (ys.map c).flatten.all oneCell = true := List.all_eq_true.2 fun w hw => by
    obtain ⟨q, hq, hw⟩ := List.mem_flatten.1 hw
    obtain ⟨y, _, rfl⟩ := List.mem_map.1 hq
    exact h1 y w hw
  have hfl : (ys.map c).flatten.length = ys.length * k := flat_len hc ys
  obtain ⟨_, hl2⟩ := hl
  rcases hl2 with ⟨_, a, h, _⟩ | ⟨N, hv, hr, hN⟩
  · rw [e] at h; cases h; exact absurd hcap (by decide)
  · rw [e] at hv
    cases hv
    subst e
    have e0 : Ev.append T [sT, xT] [.slice (some ⟨M, 0, none⟩) l.length (END + k), xs] s = appendOf T el (some ⟨M, 0, none⟩) l.length (END + k) xs s := by
      unfold Ev.append; simp only [A.und, A.arg]
    rw [e0] at h
    unfold appendOf at h
    simp only [bnd, lift, A.size, A.bytes, hz, hx1, hx2] at h
    rw [if_pos (by omega)] at h
    simp only [if_true] at h
    unfold appendEnd at h
    have hslice : Ev.slice (l.map c).flatten 0 (l.length * k) = some ((l.map c).flatten) := by
      unfold Ev.slice
      simp only [List.drop_zero]
      rw [List.take_of_length_le (by rw [flat_len hc]; exact Nat.le_refl _), if_pos (flat_len hc l)]
    simp only [bnd, rowOf, hr.get, hslice, lift] at h
    rw [if_pos ⟨trivial, A.pos, A.lt, by decide, Nat.zero_le _, hb, by simpa [END] using hb2, hall, hfl, hzk, Nat.zero_mod _⟩] at h
    have hd : delB M s = some ((), { s with t := s.t.set M none, mods := M :: s.mods }) := by unfold delB; rw [hr.get]
    simp only [bnd, hd, newB, ret] at h
    cases h
    exact List.mem_cons_self

section
variable {T : Tab} {fr : Fr} {s : St} {ops : Array Oper} {bef : List Nat} {i : Nat} {o : Oper} {os : List Oper} {ds : List (Nat × Did)} {Q : Fr → St → Prop}
/-- An operation of the third kind, ordered with all before it. -/
theorem EndsDraw.big {v : Value} {fr1 : Fr} {s1 : St} (hw : Region.wanted o (yieldedL ops fr.tmps) = true) (hk : kindOf o = 3) (hc : noCall o.op = true) (hb : blkOf fr o = 0) (hh : hiddenOf (bef.getD i 0) ds = []) (hpairs : (ds.all fun p => (bef.getD i 0).testBit p.1) = true)
    (hp : evPlain T fr.eval o.op ⟨s.t, s.next, []⟩ = some (v, s1)) (hm : ∀ N ∈ s1.mods, N < s.next ∧ (s.t.get N).isSome = true) (hn : s.next ≤ s1.next) (hold : ∀ M, M < s.next → M ∉ s1.mods → s1.t.get M = s.t.get M) (hf : fr.put o.dst v = fr1)
    (h : ∀ s2 : St, s2.next = s1.next → s2.mods = s1.mods ++ s.mods → (∀ M, M < s1.next → s2.t.get M = s1.t.get M) → EndsDraw T ops bef (i + 1) os ((i, ⟨3, 0, s.next, s1.next, s1.mods⟩) :: ds) fr1 s2 Q) : EndsDraw T ops bef i (o :: os) ds fr s Q := by
  have ho : outer s.next s1 = s1.mods := by
    unfold outer
    exact List.filter_eq_self.2 fun N hN => by simp [(hm N hN).1]
  obtain ⟨k, fr', s', h1, h2⟩ := h ⟨giveBack s1.mods s1.t (giveRange (s1.next - s.next) s.next s1.t s.t), s1.next, s1.mods ++ s.mods⟩ rfl rfl (fun M hM => by
    show (giveBack s1.mods s1.t (giveRange (s1.next - s.next) s.next s1.t s.t)).get M = _
    rw [giveBack_get, giveRange_get]
    by_cases h1 : M ∈ s1.mods
    · rw [if_pos h1]
    · rw [if_neg h1]
      by_cases h2 : s.next ≤ M ∧ M < s.next + (s1.next - s.next)
      · rw [if_pos h2]
      · rw [if_neg h2]; exact (hold M (by omega) h1).symm)
  refine ⟨k, fr', s', ?_, h2⟩
  unfold evDraw
  rw [if_pos hw]
  have e : evOp T (evCode T k) fr o = evPlain T fr.eval o.op := by
    unfold evOp
    split
    · rename_i f args ts hop; exact absurd hop (noCall_ne hc _ _ _)
    · rfl
  have hv : viewOf 3 0 [] s.t = s.t := rfl
  have hok : drawOk (bef.getD i 0) ds s.t ⟨3, 0, s.next, s1.next, s1.mods⟩ = true := by
    revert hpairs
    generalize bef.getD i 0 = bits
    intro hpairs
    have h3 : (ds.all fun p => bits.testBit p.1 || okPair p.2 ⟨3, 0, s.next, s1.next, s1.mods⟩) = true := List.all_eq_true.2 fun p hp => by
      have := List.all_eq_true.1 hpairs p hp; rw [this]; rfl
    have h4 : (s1.mods.all fun N => decide (N < s.next) && (s.t.get N).isSome) = true := List.all_eq_true.2 fun N hN => by simp [(hm N hN).1, (hm N hN).2]
    unfold drawOk
    rw [h3]; simp only [h4]; simp
  have e1 : drawOne T (evCode T k) (bef.getD i 0) ds fr o s = some ((v, ⟨3, 0, s.next, s1.next, s1.mods⟩), ⟨giveBack s1.mods s1.t (giveRange (s1.next - s.next) s.next s1.t s.t), s1.next, s1.mods ++ s.mods⟩) := by
    unfold drawOne
    simp only [hk, hb, hh, hv, e, hp, ho, hok, if_true]
  simp only [bnd, e1, hf]; exact h1
/-- A new block. -/
theorem EndsDraw.lay {v : Value} {fr1 : Fr} {el : TypeId} {vs : List Value} (hcalm : Calm ds) (hw : Region.wanted o (yieldedL ops fr.tmps) = true) (hk : kindOf o = 1) (hc : noCall o.op = true) (hb : blkOf fr o = 0)
    (hp : evPlain T fr.eval o.op ⟨.leaf, s.next, []⟩ = some (v, ⟨Tree.leaf.set s.next (some (.cells vs el 0)), s.next + 1, []⟩)) (hf : fr.put o.dst v = fr1)
    (h : ∀ s2 : St, s2.next = s.next + 1 → s2.mods = s.mods → s2.t.get s.next = some (.cells vs el 0) → (∀ M, M ≠ s.next → s2.t.get M = s.t.get M) → EndsDraw T ops bef (i + 1) os ((i, ⟨1, 0, s.next, s.next + 1, []⟩) :: ds) fr1 s2 Q) : EndsDraw T ops bef i (o :: os) ds fr s Q := by
  obtain ⟨k, fr', s', h1, h2⟩ := h ⟨giveRange 1 s.next (Tree.leaf.set s.next (some (.cells vs el 0))) s.t, s.next + 1, s.mods⟩ rfl rfl (by
    show (giveRange 1 s.next (Tree.leaf.set s.next (some (.cells vs el 0))) s.t).get s.next = _
    rw [giveRange_get, if_pos ⟨Nat.le_refl _, by omega⟩, Tree.get_set_same]) (fun M hM => by
    show (giveRange 1 s.next (Tree.leaf.set s.next (some (.cells vs el 0))) s.t).get M = _
    rw [giveRange_get, if_neg (by omega)])
  refine ⟨k, fr', s', ?_, h2⟩
  unfold evDraw
  rw [if_pos hw]
  have e : evOp T (evCode T k) fr o = evPlain T fr.eval o.op := by
    unfold evOp
    split
    · rename_i f args ts hop; exact absurd hop (noCall_ne hc _ _ _)
    · rfl
  have hv : viewOf 1 0 (hiddenOf (bef.getD i 0) ds) s.t = .leaf := rfl
  have hok := hcalm.ok (bef.getD i 0) .leaf (d := ⟨1, 0, s.next, s.next + 1, []⟩) rfl (by simp)
  have e1 : drawOne T (evCode T k) (bef.getD i 0) ds fr o s = some ((v, ⟨1, 0, s.next, s.next + 1, []⟩), ⟨giveRange 1 s.next (Tree.leaf.set s.next (some (.cells vs el 0))) s.t, s.next + 1, s.mods⟩) := by
    unfold drawOne
    simp only [hk, hb, hv, e, hp, outer, List.filter_nil, hok, if_true, giveBack, List.nil_append, Nat.add_sub_cancel_left]
  simp only [bnd, e1, hf]; exact h1
end

/-- As 'EndsD', and those so far stand ahead. -/
def EndsE (T : Tab) (ops : Array Oper) (bef : List Nat) (i : Nat) (os : List Oper) (L : List (Nat × Nat × Nat)) (fr : Fr) (s : St) (Q : Fr → St → Prop) : Prop :=
  ∀ ds, Calm ds → (∀ bits p, p ∈ hiddenOf bits ds → p ∈ hidL bits L) → (∀ p ∈ ds, p.1 < i) → EndsDraw T ops bef i os ds fr s Q
/-- Behind a write: what those so far have done is not asked. -/
def EndsF (T : Tab) (ops : Array Oper) (bef : List Nat) (i : Nat) (os : List Oper) (fr : Fr) (s : St) (Q : Fr → St → Prop) : Prop := ∀ ds, EndsDraw T ops bef i os ds fr s Q

section
variable {T : Tab} {cx : Ctx} {fr : Fr} {s s0 : St} {ops : Array Oper} {bef : List Nat} {i : Nat} {o : Oper} {os : List Oper} {L : List (Nat × Nat × Nat)} {Q : Fr → St → Prop}
theorem ahead {ds : List (Nat × Did)} {d : Did} (h : ∀ p ∈ ds, p.1 < i) : ∀ p ∈ (i, d) :: ds, p.1 < i + 1 := fun p hp => by
  rcases List.mem_cons.1 hp with rfl | hp
  · exact Nat.lt_succ_self _
  · exact Nat.lt_succ_of_lt (h p hp)
theorem Ends.drawE {id : Nat} {Q : Ex → Fr → St → Prop} (hb : befL [] ops.toList = bef) (h : EndsE T ops bef 0 ops.toList [] fr s fun fr s => Q .normal fr s) : Ends T cx (.region id ops true) fr s Q := by
  subst hb
  exact Ends.draw (h [] Calm.nil (fun _ _ h => h) fun _ h => by cases h)
theorem E.nil (h : Q fr s) : EndsE T ops bef i [] L fr s Q := fun _ _ _ _ => EndsDraw.nil h
theorem E.skip {fr1 : Fr} (hw : Region.wanted o (yieldedL ops fr.tmps) = false) (hf : fr.put o.dst undef = fr1) (h : EndsE T ops bef (i + 1) os L fr1 s Q) : EndsE T ops bef i (o :: os) L fr s Q := fun ds h1 h2 h3 => EndsDraw.skip1 hw hf (h ds h1 h2 fun p hp => Nat.lt_succ_of_lt (h3 p hp))
theorem E.op {v : Value} {fr1 : Fr} (hw : Region.wanted o (yieldedL ops fr.tmps) = true) (hp : evPlain T fr.eval o.op ⟨.leaf, s.next, []⟩ = some (v, ⟨.leaf, s.next, []⟩)) (hc : noCall o.op = true) (hk : kindOf o = 0) (hf : fr.put o.dst v = fr1)
    (h : EndsE T ops bef (i + 1) os L fr1 s Q) : EndsE T ops bef i (o :: os) L fr s Q := fun ds h1 h2 h3 => EndsDraw.still h1 hw hk (noCall_ne hc) hp hf (h _ (h1.cons rfl) (hid_same h2) (ahead h3))
theorem E.load {t : TypeId} {a : Operand} {N p : Nat} {v : Value} {fr1 : Fr} (hw : Region.wanted o (yieldedL ops fr.tmps) = true) (ho : o.op = .load t a) (hx : fr.eval a = .pointer (some ⟨N, p, none⟩)) (hh : ∀ q ∈ hidL (bef.getD i 0) L, N < q.1 ∨ q.2 ≤ N)
    (hp : ∀ s1 : St, s1.t.get N = s.t.get N → evPlain T fr.eval o.op s1 = some (v, s1)) (hf : fr.put o.dst v = fr1) (h : EndsE T ops bef (i + 1) os L fr1 s Q) : EndsE T ops bef i (o :: os) L fr s Q := fun ds h1 h2 h3 => by
  have hc : noCall o.op = true := by rw [ho]; rfl
  have hb : blkOf fr o = N := by unfold blkOf; rw [ho]; simp only [hx]
  have hk : kindOf o = 2 := by unfold kindOf; rw [ho]
  refine EndsDraw.load h1 hw hk (noCall_ne hc) hb (List.all_eq_true.2 fun q hq => ?_) hp hf (h _ (h1.cons rfl) (hid_same h2) (ahead h3))
  have := hh q (h2 _ q hq)
  simpa using this
theorem E.call {f : Operand} {args : Array Operand} {ts : Array TypeId} {g : FuncId} {ar : List Value} {X : Value} {fr1 : Fr} (hO : Own s0 s) (hw : Region.wanted o (yieldedL ops fr.tmps) = true) (ho : o.op = .call ⟨.value f, args, ts⟩)
    (hf : fr.eval f = .func (.func g) #[] #[]) (ha : args.toList.map fr.eval = ar) (hh : hidL (bef.getD i 0) L = []) (hR : EndsPure T g ar ⟨s.t, s.next, []⟩ fun v _ _ => v = X) (hp : fr.put o.dst X = fr1)
    (h : ∀ s1, Own s0 s1 → Own s s1 → EndsE T ops bef (i + 1) os ((i, s.next, s1.next) :: L) fr1 s1 Q) : EndsE T ops bef i (o :: os) L fr s Q := fun ds h1 h2 h3 => by
  subst hp
  have hn : hiddenOf (bef.getD i 0) ds = [] := List.eq_nil_iff_forall_not_mem.2 fun p hp => by
    have := h2 _ p hp
    rw [hh] at this; cases this
  refine EndsDraw.call1 h1 hw ho hf rfl hn (R := fun v _ => v = X) ?_ fun v b s1 hv hk hnx _ => ?_
  · refine EndsCall.mono (Q := fun v s' => Keep ⟨s.t, s.next, []⟩ s' ∧ v = X) (by simp only [List.nil_append, List.append_nil, ha]; exact hR) fun _ _ h => ⟨h.2, h.1⟩
  · subst hv
    rw [← hnx]
    exact h s1 (hO.trans hk.own) hk.own _ (h1.cons rfl) (hid_more h2) (ahead h3)
theorem E.newS {N : Nat} {vF : Nat → Value} {e : TypeId} {vs : List Value} {fr1 : Fr} (hO : Own s0 s) (hN : N = s.next) (hw : Region.wanted o (yieldedL ops fr.tmps) = true) (hk : kindOf o = 1)
    (hp : evPlain T fr.eval o.op ⟨.leaf, s.next, []⟩ = some (vF s.next, ⟨Tree.leaf.set s.next (some (.cells vs e 0)), s.next + 1, []⟩)) (hc : noCall o.op = true) (hb : blkOf fr o = 0) (hf : fr.put o.dst (vF N) = fr1)
    (h : ∀ s1 : St, Own s0 s1 → Own s s1 → Row s1.t s1.next N vs e 0 → s0.next ≤ N → EndsE T ops bef (i + 1) os ((i, s.next, s.next + 1) :: L) fr1 s1 Q) : EndsE T ops bef i (o :: os) L fr s Q := fun ds h1 h2 h3 => by
  subst hN
  refine EndsDraw.lay h1 hw hk hc hb hp hf fun s2 g1 g2 g3 g4 => ?_
  have hS : Own s s2 := ⟨by omega, ⟨[], g2, fun _ h => by cases h⟩, fun M hM => g4 M (Nat.ne_of_lt hM)⟩
  exact h s2 (hO.trans hS) hS ⟨g3, by omega⟩ hO.next _ (h1.cons rfl) (hid_more h2) (ahead h3)
theorem OL.same {α : Type} {c : α → List Value} {k : Nat} {el : TypeId} {lo : Nat} {v : Value} {l : List α} {t t' : Tree} {n n' : Nat} (h : OL c k el lo t n v l) (hn : n ≤ n') (hg : ∀ M, M < n → t'.get M = t.get M) : OL c k el lo t' n' v l := by
  obtain ⟨h1, h2⟩ := h
  rcases h2 with h | ⟨N, h2, h3, h4⟩
  · exact ⟨h1, .inl h⟩
  · exact ⟨h1, .inr ⟨N, h2, ⟨(hg N h3.lt).trans h3.get, Nat.lt_of_lt_of_le h3.lt hn⟩, h4⟩⟩
theorem Own.same {z s s2 : St} (h : Own z s) (hn : s2.next = s.next) (hm : s2.mods = s.mods) (hg : ∀ M, M < s.next → s2.t.get M = s.t.get M) : Own z s2 :=
  ⟨hn ▸ h.next, by obtain ⟨q, h1, h2⟩ := h.mods; exact ⟨q, hm.trans h1, fun N hN => hn ▸ h2 N hN⟩, fun N hN => (hg N (Nat.lt_of_lt_of_le hN h.next)).trans (h.old N hN)⟩
theorem OL.struck {α : Type} {c : α → List Value} {k : Nat} {el : TypeId} {lo : Nat} {v : Value} {l : List α} {t : Tree} {n : Nat} (h : OL c k el lo t n v l) {M : Nat} (hM : Struck v M) : M < n ∧ lo ≤ M ∧ (t.get M).isSome = true := by
  obtain ⟨len, cap, e, hcap⟩ := hM
  obtain ⟨_, h2⟩ := h
  rcases h2 with ⟨_, a, h, _⟩ | ⟨N, h, hr, hN⟩
  · rw [e] at h; cases h; exact absurd hcap (by decide)
  · rw [e] at h; cases h; exact ⟨hr.lt, hN, by rw [hr.get]; rfl⟩
/-- An append of one element that has just been laid, ordered with all before it. -/
theorem E.append {α : Type} {c : α → List Value} {k b : Nat} {el sT xT : TypeId} {l : List α} {x : α} {v : Value} {X e2 h2 : Nat} {z : St} {p q : Operand} {fF : Value → Fr} (A : AppOk T sT xT el k b) (hc : ∀ y, (c y).length = k) (h1 : ∀ y, ∀ v ∈ c y, oneCell v = true) (hO : Own s0 s) (hz : Own z s) (hl : OL c k el s0.next z.t z.next v l)
    (hX : Row s.t s.next X (c x) e2 h2) (hw : Region.wanted o (yieldedL ops fr.tmps) = true) (ho : o.op = .call ⟨.builtin .append, #[p, q], #[sT, xT]⟩) (hp : fr.eval p = v) (hq : fr.eval q = .slice (some ⟨X, 0, none⟩) 1 1) (hh : hidL (bef.getD i 0) L = []) (hbits : ∀ j, j < i → (bef.getD i 0).testBit j = true) (hb : (l.length + 1) * b ≤ 140737488355328) (hb2 : l.length + 1 < 4611686018427387904)
    (hf : ∀ v', fr.put o.dst v' = fF v')
    (h : ∀ v' s1, Own s0 s1 → s.next ≤ s1.next → (∀ M, z.next ≤ M → M < s.next → s1.t.get M = s.t.get M) → OL c k el s0.next s1.t s1.next v' (l ++ [x]) → EndsF T ops bef (i + 1) os (fF v') s1 Q) : EndsE T ops bef i (o :: os) L fr s Q := fun ds g1 g2 g3 => by
  have hc' : noCall o.op = true := by rw [ho]; rfl
  have hn : hiddenOf (bef.getD i 0) ds = [] := List.eq_nil_iff_forall_not_mem.2 fun p hp => by
    have := g2 _ p hp
    rw [hh] at this; cases this
  have hl' := hl.own hz
  have hX' : Row (⟨s.t, s.next, []⟩ : St).t s.next X (c x) e2 h2 := hX
  obtain ⟨v', s1, e1, e2', e3, ⟨m, e4, e4'⟩, e5⟩ := append_run (s := ⟨s.t, s.next, []⟩) A hc h1 hl' hO.next (xs := .slice (some ⟨X, 0, none⟩) 1 1) (ys := [x]) rfl (firstOne (hc x) hX') (by simpa using hb) (by simpa using hb2)
  have e4 : s1.mods = m := by rw [e4]; simp
  have e2' : s.next ≤ s1.next := e2'
  refine EndsDraw.big (v := v') (s1 := s1) hw (by unfold kindOf; rw [ho]) hc' (by unfold blkOf; rw [ho]) hn (List.all_eq_true.2 fun p hp => hbits _ (g3 p hp)) ?_ (fun N hN => ?_) e2' (fun M hM hne => ?_) (hf v') fun s2 k1 k2 k3 => ?_
  · rw [ho]
    show Ev.append T [sT, xT] [fr.eval p, fr.eval q] _ = _
    rw [hp, hq]; exact e1
  · have := hl'.struck (e4' N (e4 ▸ hN)); exact ⟨this.1, this.2.2⟩
  · by_cases hs : Struck v M
    · exact absurd (append_all (s := ⟨s.t, s.next, []⟩) A hc h1 hl' (ys := [x]) (xs := .slice (some ⟨X, 0, none⟩) 1 1) rfl (firstOne (hc x) hX') (by simpa using hb) (by simpa using hb2) e1 M hs) hne
    · exact e5 M hM hs
  · have e6 : ∀ M, M < s.next → ¬ Struck v M → s2.t.get M = s.t.get M := fun M hM hs => (k3 M (by omega)).trans (e5 M hM hs)
    have e7 : ∃ q, s2.mods = q ++ s.mods ∧ ∀ N ∈ q, Struck v N := ⟨s1.mods, k2, fun N hN => e4' N (e4 ▸ hN)⟩
    refine h v' s2 (Own.append hO hl' (Nat.le_refl _) (by omega) e7 e6) (by omega) (fun M hM hM2 => e6 M hM2 fun hs => ?_) (e3.same (by omega) k3) _
    have := (hl.struck hs).1; omega
theorem F.nil (h : Q fr s) : EndsF T ops bef i [] fr s Q := fun _ => EndsDraw.nil h
theorem F.op {v : Value} {fr1 : Fr} (hw : Region.wanted o (yieldedL ops fr.tmps) = true) (hp : evPlain T fr.eval o.op ⟨.leaf, s.next, []⟩ = some (v, ⟨.leaf, s.next, []⟩)) (hc : noCall o.op = true) (hk : kindOf o = 0) (hf : fr.put o.dst v = fr1)
    (h : EndsF T ops bef (i + 1) os fr1 s Q) : EndsF T ops bef i (o :: os) fr s Q := fun _ => EndsDraw.still0 hw hk hc hp hf (h _)
end
end Go.Ev
