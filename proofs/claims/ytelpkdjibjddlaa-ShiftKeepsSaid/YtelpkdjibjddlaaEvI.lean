/-
  EV, PART I: what is made; copy, clear, len, min and max; conversions; strings' walks; a Builder's string.
-/
import Derived.Test.YtelpkdjibjddlaaEvH
set_option linter.unusedSimpArgs false
set_option linter.unusedVariables false
namespace Go.Ev
open Go Go.RowKit

theorem rep_length : ∀ (n : Nat) (l : List Value), (rep n l).length = n * l.length
  | 0, l => by simp [rep]
  | n + 1, l => by simp [rep, rep_length n l, Nat.add_mul, Nat.add_comm]

theorem rep_range (z : Array Value) : ∀ n, (List.range (n * z.size)).map (fun i => z[i % z.size]!) = rep n z.toList
  | 0 => by simp [rep]
  | n + 1 => by
    rw [Nat.add_mul, Nat.one_mul, Nat.add_comm, List.range_add, List.map_append, List.map_map, rep, ← rep_range z n]
    congr 1
    · apply List.ext_getElem?
      intro i
      by_cases hi : i < z.size
      · rw [List.getElem?_map, List.getElem?_range hi, Array.getElem?_toList]
        simp [Nat.mod_eq_of_lt hi, hi]
      · rw [List.getElem?_eq_none (by simp; omega), List.getElem?_eq_none (by simp; omega)]
    · apply List.map_congr_left
      intro i _
      simp

theorem made_rep (z : Array Value) (n k : Nat) (hk : z.size = k) : ((Array.range (n * k)).map (fun i => z[i % z.size]!)).toList = rep n z.toList := by
  subst hk
  rw [Array.toList_map, Array.toList_range]
  exact rep_range z n

section
variable {T : Tab} {P : Program} (hT : T.Ok P)
include hT

theorem zeros_some {elem : TypeId} {n : Nat} {l : List Value} (h : zeros T elem n = some l) : ∃ z k, T.zero elem = some z ∧ T.size elem = some k ∧ z.cells.size = k ∧ l = rep n z.cells.toList ∧ (∀ v ∈ l, Flat v) := by
  unfold zeros at h
  cases hz : T.zero elem with
  | none => simp [hz] at h
  | some z =>
    cases hk : T.size elem with
    | none => simp [hz, hk] at h
    | some k =>
      simp only [hz, hk] at h
      split at h
      · rename_i hl
        cases h
        have hf := (hT.zero _ _ hz).2
        refine ⟨z, k, rfl, rfl, by rw [← Array.length_toList]; exact hl, rfl, ?_⟩
        have hcell : ∀ v ∈ cellsOf z, Flat v := by
          intro v hv
          cases hf <;> simp only [cellsOf, Value.cells, List.mem_singleton] at hv <;> first
            | (subst hv; constructor; done)
            | (subst hv; constructor; assumption)
            | (rename_i a ha; obtain ⟨i, hi, rfl⟩ := List.getElem_of_mem hv; exact ha i _ (List.getElem?_eq_getElem hi))
        have : ∀ n, ∀ v ∈ rep n (cellsOf z), Flat v := by
          intro n
          induction n with
          | zero => intro v hv; simp [rep] at hv
          | succ n ih => intro v hv; simp only [rep, List.mem_append] at hv; rcases hv with hv | hv; exact hcell v hv; exact ih v hv
        exact this n
      · cases h

theorem sim_buildSlice {φ : Phi} {B : Base} {s s' : St} {w : World} (hR : Rel φ B s.t.get w) (hf : Fresh φ s.next s'.next) {t : TypeId} {n : Nat} {parts parts' : List (Nat × Value)} {v : Value}
    (h : buildSlice T t n parts s = some (v, s')) (hl : parts.length = parts'.length)
    (hp : ∀ (i : Nat) (p p' : Nat × Value), parts[i]? = some p → parts'[i]? = some p' → p.1 = p'.1 ∧ VRel φ p.2 p'.2) : Came φ B s w v s' ((Instr.buildSlice t n ⟨parts'⟩).run P w) := by
  have hEND : END = 4611686018427387904 := rfl
  unfold buildSlice at h
  cases hd : T.und t with
  | none => simp [hd, fail] at h
  | some d =>
    cases d <;> simp only [hd] at h <;> try (cases h; done)
    rename_i elem
    cases hn : T.size elem with
    | none => simp [hn, fail] at h
    | some k =>
      cases hz : zeros T elem n with
      | none => simp [hn, hz, fail] at h
      | some z =>
        simp only [hn, hz] at h
        obtain ⟨zv, k', z1, z2, z3, rfl, z5⟩ := zeros_some hT hz
        rw [hn] at z2; cases z2
        split at h
        · rename_i hc
          obtain ⟨c1, c2, c3⟩ := hc
          rcases hfill : fillL (fun i => some (i * k, k)) (rep n zv.cells.toList) parts with _ | cs
          · simp [hfill, fail] at h
          · simp only [hfill] at h
            obtain ⟨N, s1, h1, h2⟩ := bnd_some h
            obtain ⟨rfl, rfl⟩ := newB_some h1
            obtain ⟨rfl, rfl⟩ := ret_some h2
            have hfr : φ s.next = none := hf s.next (Nat.le_refl _) (by simp)
            obtain ⟨cs', hf1, hf2⟩ := fillL_rel _ parts parts' _ _ cs hfill (Flat.lrel z5) hl hp
            obtain ⟨hg, hR'⟩ := sim_newRow (T := T) (P := P) hT hR hfr (e := elem) (c := ⟨cs'⟩) hf2
            have hne : n * k ≠ 0 := by intro e; rcases Nat.mul_eq_zero.1 e with e | e <;> omega
            refine ⟨_, w.alloc (.cells ⟨cs'⟩ elem), .slice (some ⟨w.heap.size, 0, none⟩) n n, ?_, by simp, hg, hR', ?_, .alloc _ _ _ _⟩
            · have hr : ((Array.range (n * k)).map (fun i => zv.cells[i % zv.cells.size]!)) = ⟨rep n zv.cells.toList⟩ := by
                apply Array.ext'; exact made_rep _ _ _ z3
              have h24 : ¬ (n * k > 2 ^ 24) := by have : (2 : Nat) ^ 24 = 16777216 := rfl; omega
              simp only [Instr.buildSlice, Sem.run_bind, run_und hT hd, run_size hT hn, Result.andThen_ok, h24, if_false, hne, run_zero hT z1, Sem.run_pure, hr]
              rw [hf1]
              simp only [Go.newRow, Sem.run_bind, run_newObj_alloc, Result.andThen_ok, Sem.run_pure]
            · refine VRel.sliceEx (L := ⟨w.heap.size, 0, _⟩) n n (Phi.add_same _ _ _) ?_
              have : n ≤ n * k := Nat.le_mul_of_pos_right n c1
              omega
        · split at h
          · rename_i hc
            obtain ⟨rfl, rfl⟩ := hc
            obtain ⟨N, s1, h1, h2⟩ := bnd_some h
            obtain ⟨rfl, rfl⟩ := newB_some h1
            obtain ⟨rfl, rfl⟩ := ret_some h2
            have hfr : φ s.next = none := hf s.next (Nat.le_refl _) (by simp)
            obtain rfl : parts' = [] := List.eq_nil_of_length_eq_zero (by simpa using hl.symm)
            obtain ⟨hg, hR'⟩ := sim_newRow (T := T) (P := P) hT hR hfr (e := elem) (vs := []) (c := #[]) .nil
            refine ⟨_, w.alloc (.cells #[] elem), .slice (some ⟨w.heap.size, 0, none⟩) 0 0, ?_, by simp, hg, hR', ?_, .alloc _ _ _ _⟩
            · simp [Instr.buildSlice, run_und hT hd, run_size hT hn, Instr.fill, Go.newRow, Array.range_zero']
            · exact VRel.sliceEx (L := ⟨w.heap.size, 0, _⟩) 0 0 (Phi.add_same _ _ _) (by omega)
          · cases h

theorem sim_makeSlice {φ : Phi} {B : Base} {s s' : St} {w : World} (hR : Rel φ B s.t.get w) (hf : Fresh φ s.next s'.next) {t : TypeId} {l l' c c' : Value} {v : Value} (hl : VRel φ l l') (hcc : VRel φ c c')
    (h : makeSlice T t l c s = some (v, s')) : Came φ B s w v s' ((Instr.makeSlice t l' c').run P w) := by
  have hEND : END = 4611686018427387904 := rfl
  unfold makeSlice at h
  cases hd : T.und t with
  | none => simp [hd, fail] at h
  | some d =>
    cases d <;> simp only [hd] at h <;> try (cases h; done)
    rename_i elem
    cases hl <;> simp only [asInt] at h <;> try (cases h; done)
    cases hcc <;> simp only at h <;> try (cases h; done)
    rename_i kl n kc m
    cases hb : T.bytes elem with
    | none => simp [hb, fail] at h
    | some b =>
      cases hz : zeros T elem m.toNat with
      | none => simp [hb, hz, fail] at h
      | some z =>
        simp only [hb, hz] at h
        split at h
        · rename_i hc
          obtain ⟨c1, c2, c3, c4⟩ := hc
          obtain ⟨N, s1, h1, h2⟩ := bnd_some h
          obtain ⟨rfl, rfl⟩ := newB_some h1
          obtain ⟨rfl, rfl⟩ := ret_some h2
          have hfr : φ s.next = none := hf s.next (Nat.le_refl _) (by simp)
          obtain ⟨zv, k, z1, z2, z3, rfl, z5⟩ := zeros_some hT hz
          obtain ⟨⟨i, hi, hiz⟩, _⟩ := hT.zero _ _ z1
          have hib : i.bytes = b := by obtain ⟨j, hj, e⟩ := hT.bytes _ _ hb; rw [hi] at hj; cases hj; exact e
          have his : i.size = k := by obtain ⟨j, hj, e⟩ := hT.size _ _ z2; rw [hi] at hj; cases hj; exact e
          have hrun := run_make (P := P) w t elem i zv (hT.und _ _ hd) hi hiz kl kc n m c1 c2 (by rw [hib]; omega) (by omega)
          have hr : madeCells zv.cells (m.toNat * i.size) = ⟨rep m.toNat zv.cells.toList⟩ := by
            apply Array.ext'; rw [his]; exact made_rep _ _ _ z3
          rw [hr] at hrun
          obtain ⟨hg, hR'⟩ := sim_newRow (T := T) (P := P) hT hR hfr (e := elem) (c := ⟨rep m.toNat zv.cells.toList⟩) (Flat.lrel z5)
          exact ⟨_, _, _, hrun, by simp, hg, hR', VRel.sliceEx (L := ⟨w.heap.size, 0, _⟩) _ _ (Phi.add_same _ _ _) (by omega), .alloc _ _ _ _⟩
        · cases h

omit hT in
theorem minmaxFrom_rel {φ : Phi} (mx : Bool) (k : IntKind) : ∀ (l l' : List Value) (x : Int) (v : Value) (w : World), minmaxFrom mx k x l = some v → LRel φ l l' →
    (l'.foldlM (if mx then Builtin.max2 else Builtin.min2) (.int k x)).run P w = .ok v w ∧ ∃ n, v = .int k n
  | [], l', x, v, w, h, hl => by
    obtain rfl := hl.nil_inv
    simp [minmaxFrom] at h
    subst h
    exact ⟨by simp, _, rfl⟩
  | a :: r, l', x, v, w, h, hl => by
    obtain ⟨a', r', rfl, ha, hr⟩ := hl.cons_inv
    cases a <;> simp only [minmaxFrom] at h <;> try (cases h; done)
    cases ha
    rename_i k2 y
    have ih := minmaxFrom_rel mx k r r' _ v w h hr
    refine ⟨?_, ih.2⟩
    rw [List.foldlM_cons]
    cases mx
    · simp only [Bool.false_eq_true, if_false] at ih ⊢
      simp only [Builtin.min2, Sem.run_bind, Sem.run_pure, Result.andThen_ok]
      exact ih.1
    · simp only [if_true] at ih ⊢
      simp only [Builtin.max2, Sem.run_bind, Sem.run_pure, Result.andThen_ok]
      exact ih.1

omit hT in
theorem sim_minmax {φ : Phi} (mx : Bool) {l l' : List Value} {v : Value} (w : World) (h : minmax mx l = some v) (hl : LRel φ l l') (ts : Array TypeId) (ty : TypeId) :
    ((if mx then Builtin.max_ ts ty ⟨l'⟩ else Builtin.min_ ts ty ⟨l'⟩).run P w = .ok v w) ∧ VRel φ v v := by
  cases l with
  | nil => simp [minmax] at h
  | cons a r =>
    obtain ⟨a', r', rfl, ha, hr⟩ := hl.cons_inv
    cases a <;> simp only [minmax] at h <;> try (cases h; done)
    cases ha
    obtain ⟨h1, n, rfl⟩ := minmaxFrom_rel (P := P) mx _ r r' _ v w h hr
    refine ⟨?_, .int _ _⟩
    cases mx
    · simpa [Builtin.min_] using h1
    · simpa [Builtin.max_] using h1

theorem sim_len {φ : Phi} {B : Base} {s s' : St} {w : World} (hR : Rel φ B s.t.get w) {ts : Array TypeId} {ty : TypeId} {args args' : List Value} (ha : LRel φ args args') {v : Value}
    (h : len T ts.toList args s = some (v, s')) : s' = s ∧ (Builtin.len_ ts ty ⟨args'⟩).run P w = .ok v w ∧ Flat v := by
  generalize hts : ts.toList = tl at h
  rcases tl with _ | ⟨t, tr⟩
  · cases h
  rcases args with _ | ⟨x, r⟩
  · cases h
  obtain ⟨x', r', rfl, hx, _⟩ := ha.cons_inv
  have e0 : ts[0]? = some t := by rw [← Array.getElem?_toList, hts]; rfl
  simp only [len] at h
  cases hd : T.und t with
  | none => simp [hd, fail] at h
  | some d =>
    have hrun : ∀ (X : Sem Value), (Builtin.len_ ts ty ⟨x' :: r'⟩) = X → (Builtin.len_ ts ty ⟨x' :: r'⟩) = X := fun _ h => h
    cases d <;> simp only [hd] at h <;> try (cases h; done)
    · cases hx <;> simp only at h <;> try (cases h; done)
      obtain ⟨rfl, rfl⟩ := ret_some h
      rename_i str
      refine ⟨rfl, ?_, .int _ _⟩
      rw [show str.data.toList.length = str.size from Array.length_toList]
      simp [Builtin.len_, e0, run_und hT hd]
    · cases hx <;> simp only at h <;> try (cases h; done)
      all_goals
        obtain ⟨rfl, rfl⟩ := ret_some h
        exact ⟨rfl, by simp [Builtin.len_, e0, run_und hT hd], .int _ _⟩
    · obtain ⟨rfl, rfl⟩ := ret_some h
      exact ⟨rfl, by cases hx <;> simp [Builtin.len_, e0, run_und hT hd], .int _ _⟩
    · cases hx <;> simp only at h <;> try (cases h; done)
      obtain ⟨rfl, rfl⟩ := ret_some h
      exact ⟨rfl, by simp [Builtin.len_, e0, run_und hT hd], .int _ _⟩

end
end Go.Ev
