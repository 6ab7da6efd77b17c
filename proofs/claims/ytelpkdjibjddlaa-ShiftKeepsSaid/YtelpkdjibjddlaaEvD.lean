/-
  EV, PART D: the operations without memory: what the evaluator gives, the model's operation gives.
-/
import Derived.Test.YtelpkdjibjddlaaEvC
import Derived.Laws.Entries
import Derived.Laws.StructEq
import Derived.ChangeKeysEq
set_option linter.unusedSimpArgs false
set_option linter.unusedVariables false
namespace Go.Ev
open Go Go.RowKit

def operandOk (globs : Nat) : Operand → Bool
  | .const v => flatB 3 v
  | .global g => decide (g < globs)
  | _ => true

/-- The evaluator's tables tell the program's truth. -/
structure Tab.Ok (T : Tab) (P : Program) : Prop where
  und : ∀ t d, T.und t = some d → P.underlying t = some d
  size : ∀ t n, T.size t = some n → ∃ i, P.info? t = some i ∧ i.size = n
  bytes : ∀ t n, T.bytes t = some n → ∃ i, P.info? t = some i ∧ i.bytes = n
  zero : ∀ t v, T.zero t = some v → (∃ i, P.info? t = some i ∧ i.zero = some v) ∧ Flat v
  cmp : ∀ t, T.cmp t = true → ∃ i, P.info? t = some i ∧ i.comparable = true
  eqOk : ∀ t, T.eqOk t = true → P.stoodInHeld t = false ∧ P.eqGuardType P.depth t = false

section
variable {T : Tab} {P : Program} (hT : T.Ok P)
include hT

theorem run_und {t : TypeId} {d : TypeDesc} (h : T.und t = some d) (w : World) : (underlying t).run P w = .ok d w := run_underlying (hT.und t d h) w
theorem run_info {t : TypeId} {i : TypeInfo} (h : P.info? t = some i) (w : World) : (typeInfo t).run P w = .ok i w := by
  have _ := hT
  simp [typeInfo, h]
theorem run_size {t : TypeId} {n : Nat} (h : T.size t = some n) (w : World) : (sizeOf t).run P w = .ok n w := by
  obtain ⟨i, hi, hn⟩ := hT.size t n h
  simp [sizeOf, typeInfo, hi, hn]
theorem run_zero {t : TypeId} {v : Value} (h : T.zero t = some v) (w : World) : (zeroValue t).run P w = .ok v w := by
  obtain ⟨⟨i, hi, hz⟩, _⟩ := hT.zero t v h
  simp [zeroValue, typeInfo, hi, hz]
theorem run_isAgg {t : TypeId} {d : TypeDesc} (h : T.und t = some d) (w : World) : (isAgg t).run P w = .ok (isAggD d) w := by
  simp only [isAgg, Sem.run_bind, run_und hT h, Result.andThen_ok]
  cases d <;> rfl

omit hT in
theorem LRel.extract {φ : Phi} {c c' : Array Value} (h : LRel φ c.toList c'.toList) (o n : Nat) : LRel φ ((c.toList.drop o).take n) (c'.extract o (o + n)).toList := by
  have := (h.drop o).take n
  rw [Array.toList_extract, List.extract_eq_take_drop]
  rwa [show o + n - o = n by omega]

/-- A part of an aggregate. -/
theorem sim_part {φ : Phi} {t : TypeId} {c c' : Array Value} {o : Nat} {v : Value} (h : part T t c.toList o = some v) (hc : LRel φ c.toList c'.toList) (w : World) :
    ∃ v', (Go.part t c' o).run P w = .ok v' w ∧ VRel φ v v' := by
  unfold part at h
  cases hd : T.und t with
  | none => simp [hd] at h
  | some d =>
    simp only [hd] at h
    by_cases ha : isAggD d = true
    · rw [if_pos ha] at h
      cases hn : T.size t with
      | none => simp [hn] at h
      | some n =>
        simp only [hn, Option.some.injEq] at h
        subst h
        refine ⟨.agg (c'.extract o (o + n)), ?_, .agg _ _ (hc.extract o n).1 (hc.extract o n).2⟩
        simp [Go.part, run_isAgg hT hd, ha, run_size hT hn]
    · rw [if_neg ha] at h
      obtain ⟨v', h1, h2⟩ := hc.get h
      have ha' : isAggD d = false := by simpa using ha
      refine ⟨v', ?_, h2⟩
      rw [Array.getElem?_toList] at h1
      simp [Go.part, run_isAgg hT hd, ha', h1]

/-- The fields of a struct, compared. -/
theorem sim_fieldsEq {φ : Phi} (D : Nat) (eq : TypeId → Value → Value → Option Bool) (hq : ∀ t x y b x' y' (w : World), eq t x y = some b → VRel φ x x' → VRel φ y y' → (Op.equalIn D t x' y').run P w = .ok b w)
    (xs ys xs' ys' : Array Value) (hx : LRel φ xs.toList xs'.toList) (hy : LRel φ ys.toList ys'.toList) (w : World) :
    ∀ (fs : List Field) (b : Bool), fieldsEq T eq fs xs.toList ys.toList = some b → (Op.eqFields D xs' ys' fs).run P w = .ok b w
  | [], b, h => by simp [fieldsEq] at h; subst h; rfl
  | f :: fs, b, h => by
    unfold fieldsEq at h
    by_cases hn : f.name = "_"
    · rw [if_pos hn] at h; cases h
    · rw [if_neg hn] at h
      cases ha : part T f.type xs.toList f.offset with
      | none => simp [ha] at h
      | some a =>
        cases hb : part T f.type ys.toList f.offset with
        | none => simp [ha, hb] at h
        | some c =>
          simp only [ha, hb] at h
          obtain ⟨a', ra, va⟩ := sim_part hT ha hx w
          obtain ⟨c', rc, vc⟩ := sim_part hT hb hy w
          simp only [Op.eqFields, hn, ne_eq, not_false_eq_true, if_true, Sem.run_bind, ra, rc, Result.andThen_ok]
          cases he : eq f.type a c with
          | none => simp [he] at h
          | some r =>
            rw [hq _ _ _ _ _ _ w he va vc]
            cases r with
            | false => simp only [he, Option.some.injEq] at h; subst h; rfl
            | true =>
              simp only [he] at h
              simpa using sim_fieldsEq D eq hq xs ys xs' ys' hx hy w fs b h

theorem sim_elemsEq {φ : Phi} (D : Nat) (eq : TypeId → Value → Value → Option Bool) (hq : ∀ t x y b x' y' (w : World), eq t x y = some b → VRel φ x x' → VRel φ y y' → (Op.equalIn D t x' y').run P w = .ok b w)
    (e n : Nat) (xs ys xs' ys' : Array Value) (hx : LRel φ xs.toList xs'.toList) (hy : LRel φ ys.toList ys'.toList) (w : World) :
    ∀ (is : List Nat) (b : Bool), elemsEq T eq e n is xs.toList ys.toList = some b → (Op.eqItems D e n xs' ys' is).run P w = .ok b w
  | [], b, h => by simp [elemsEq] at h; subst h; rfl
  | i :: is, b, h => by
    unfold elemsEq at h
    cases ha : part T e xs.toList (i * n) with
    | none => simp [ha] at h
    | some a =>
      cases hb : part T e ys.toList (i * n) with
      | none => simp [ha, hb] at h
      | some c =>
        simp only [ha, hb] at h
        obtain ⟨a', ra, va⟩ := sim_part hT ha hx w
        obtain ⟨c', rc, vc⟩ := sim_part hT hb hy w
        simp only [Op.eqItems, Sem.run_bind, ra, rc, Result.andThen_ok]
        cases he : eq e a c with
        | none => simp [he] at h
        | some r =>
          rw [hq _ _ _ _ _ _ w he va vc]
          cases r with
          | false => simp only [he, Option.some.injEq] at h; subst h; rfl
          | true =>
            simp only [he] at h
            simpa using sim_elemsEq D eq hq e n xs ys xs' ys' hx hy w is b h

theorem run_struct_eq (d : Nat) (t : TypeId) (fs : Array Field) (xs ys : Array Value) (ht : P.underlying t = some (.struct fs)) (hp : P.stoodInHeld t = false) (w : World) :
    (Op.equalIn (d + 1) t (.agg xs) (.agg ys)).run P w = (Op.eqFields d xs ys fs.toList).run P w := by
  have _ := hT
  have hf : P.fieldsOf t = fs := by simp [Program.fieldsOf, ht]
  have := run_equalIn_struct (P := P) w d t xs ys (by rw [hf]; exact ht) hp
  rwa [hf] at this

theorem cellsOf_size {t : TypeId} {n : Nat} (h : T.size t = some n) : P.cellsOf t = n := by
  obtain ⟨i, hi, hn⟩ := hT.size t n h
  simp [Program.cellsOf, hi, hn]

set_option maxHeartbeats 2000000 in
theorem sim_equal {φ : Phi} : ∀ (d : Nat) (t : TypeId) (x y : Value) (b : Bool) (x' y' : Value) (w : World), equalF T d t x y = some b → VRel φ x x' → VRel φ y y' → ∀ D, d < D → (Op.equalIn D t x' y').run P w = .ok b w := by
  intro d
  induction d with
  | zero => intro t x y b x' y' w h; simp [equalF] at h
  | succ d ih =>
    intro t x y b x' y' w h hx hy D hD
    obtain ⟨D, rfl⟩ : ∃ m, D = m + 1 := ⟨D - 1, by omega⟩
    unfold equalF at h
    cases hd : T.und t with
    | none => simp [hd] at h
    | some k =>
      have hu := run_und hT hd
      split at h <;> rename_i hk <;> (try (rw [hd] at hk; cases hk))
      · cases hx; cases hy; cases h; simp only [Op.equalIn, Sem.run_bind, hu, Result.andThen_ok, Sem.run_pure, Option.isNone]
      · cases hx; cases hy
        split at h
        · rename_i e; subst e; cases h; simp only [Op.equalIn, Sem.run_bind, hu, Result.andThen_ok, if_true, Sem.run_pure]
        · cases h
      · cases hx; cases hy; cases h; simp only [Op.equalIn, Sem.run_bind, hu, Result.andThen_ok, Sem.run_pure, beq_toListBytes, ByteArray.toList_eq]
      · cases hx
        cases hy <;> (cases h; simp only [Op.equalIn, Sem.run_bind, hu, Result.andThen_ok, Sem.run_pure, Option.isNone])
      · cases hx; cases hy; cases h; simp only [Op.equalIn, Sem.run_bind, hu, Result.andThen_ok, Sem.run_pure, Option.isNone]
      · rename_i elem N o N' o'
        cases hs : T.size elem with
        | none => simp [hs] at h
        | some n =>
          cases n with
          | zero => simp [hs] at h
          | succ n =>
            simp only [hs] at h
            split at h
            · rename_i e
              subst e
              cases h
              cases hx with
              | ptr hL =>
                cases hy with
                | ptr hL' =>
                  rw [hL] at hL'; cases hL'
                  simp only [Op.equalIn, Sem.run_bind, hu, Result.andThen_ok, run_size hT hs, sameAddr]
                  simp
                  rw [Bool.eq_iff_iff]; simp
            · cases h
      · cases hx; cases hy; cases h; simp only [Op.equalIn, Sem.run_bind, hu, Result.andThen_ok, Sem.run_pure, Option.isNone]
      · cases hx; cases hy; cases h; simp only [Op.equalIn, Sem.run_bind, hu, Result.andThen_ok, Sem.run_pure, Option.isNone]
      · cases hx; cases hy; cases h; simp only [Op.equalIn, Sem.run_bind, hu, Result.andThen_ok, Sem.run_pure, Option.isNone]
      · rename_i tx k a ty k' c
        cases hx with
        | iface _ hx => cases hy with
          | iface _ hy =>
            cases hx; cases hy
            simp only [Op.equalIn, Sem.run_bind, hu, Result.andThen_ok]
            by_cases e : tx = ty
            · subst e
              rw [if_neg (by simp)] at h ⊢
              split at h
              · rename_i k0 hk hc
                obtain ⟨i, hi, hcm⟩ := hT.cmp _ hc
                split at h
                · rename_i e; subst e; cases h
                  obtain ⟨D, rfl⟩ : ∃ m, D = m + 1 := ⟨D - 1, by omega⟩
                  simp only [Sem.run_bind, run_info hT hi, Result.andThen_ok, hcm, Bool.not_true, Bool.false_eq_true, if_false]
                  simp only [Op.equalIn, Sem.run_bind, run_und hT hk, Result.andThen_ok, if_true, Sem.run_pure]
                · cases h
              · cases h
            · rw [if_pos e] at h ⊢; cases h; rfl
      · rename_i fields xs ys
        cases hx with
        | agg _ xs' h1 h2 =>
          cases hy with
          | agg _ ys' h3 h4 =>
            split at h
            · rename_i hok
              rw [run_struct_eq hT D t fields xs' ys' (hT.und _ _ hd) (hT.eqOk t hok).1]
              exact sim_fieldsEq hT D (equalF T d) (fun t x y b x' y' w h a c => ih t x y b x' y' w h a c D (by omega)) xs ys xs' ys' ⟨h1, h2⟩ ⟨h3, h4⟩ w _ b h
            · cases h
      · rename_i len elem xs ys
        cases hx with
        | agg _ xs' h1 h2 =>
          cases hy with
          | agg _ ys' h3 h4 =>
            split at h
            · cases hs : T.size elem with
              | none => simp [hs] at h
              | some n =>
                simp only [hs] at h
                obtain ⟨i, hi, hn⟩ := hT.size _ _ hs
                rw [run_equalIn_array w D xs' ys' (hT.und _ _ hd) hi, cellsOf_size hT hs]
                exact sim_elemsEq hT D (equalF T d) (fun t x y b x' y' w h a c => ih t x y b x' y' w h a c D (by omega)) elem n xs ys xs' ys' ⟨h1, h2⟩ ⟨h3, h4⟩ w _ b h
            · cases h
      · cases hx; cases hy <;> (cases h; simp only [Op.equalIn, Sem.run_bind, hu, Result.andThen_ok, Sem.run_pure, Option.isNone])
      · cases hy; cases hx <;> (cases h; simp only [Op.equalIn, Sem.run_bind, hu, Result.andThen_ok, Sem.run_pure, Option.isNone])
      · cases hx; cases hy <;> (cases h; simp only [Op.equalIn, Sem.run_bind, hu, Result.andThen_ok, Sem.run_pure, Option.isNone])
      · cases hx; cases hy; cases h; simp only [Op.equalIn, Sem.run_bind, hu, Result.andThen_ok, Sem.run_pure, Option.isNone]
      · cases hx; cases hy; cases h; simp only [Op.equalIn, Sem.run_bind, hu, Result.andThen_ok, Sem.run_pure, Option.isNone]
      · cases hx; cases hy <;> (cases h; simp only [Op.equalIn, Sem.run_bind, hu, Result.andThen_ok, Sem.run_pure, Option.isNone])
      · cases hy; cases hx <;> (cases h; simp only [Op.equalIn, Sem.run_bind, hu, Result.andThen_ok, Sem.run_pure, Option.isNone])
      · cases h

omit hT in
theorem fillL_rel {φ : Phi} (place : Nat → Option (Nat × Nat)) : ∀ (parts parts' : List (Nat × Value)) (cs cs' : List Value) (r : List Value), fillL place cs parts = some r → LRel φ cs cs' →
    parts.length = parts'.length → (∀ (i : Nat) (p p' : Nat × Value), parts[i]? = some p → parts'[i]? = some p' → p.1 = p'.1 ∧ VRel φ p.2 p'.2) →
    ∃ r' : List Value, Instr.fill place ⟨cs'⟩ parts' = some ⟨r'⟩ ∧ LRel φ r r'
  | [], parts', cs, cs', r, h, hc, hl, hp => by
    have : parts' = [] := List.eq_nil_of_length_eq_zero (by simpa using hl.symm)
    subst this
    simp [fillL] at h; subst h
    exact ⟨cs', rfl, hc⟩
  | (i, v) :: rest, [], cs, cs', r, h, hc, hl, hp => by simp at hl
  | (i, v) :: rest, (i', v') :: rest', cs, cs', r, h, hc, hl, hp => by
    obtain ⟨hi, hv⟩ := hp 0 _ _ rfl rfl
    simp only at hi hv
    subst hi
    unfold fillL at h
    cases hpl : place i with
    | none => simp [hpl] at h
    | some os =>
      obtain ⟨off, size⟩ := os
      simp only [hpl] at h
      by_cases hcond : (cellsOf v).length = size ∧ off + size ≤ cs.length
      · rw [if_pos hcond] at h
        have hcv := cells_one hv
        have hcs : v'.cells.size = size := by rw [← Array.length_toList, ← hcv.1]; exact hcond.1
        have hset : LRel φ (putAt cs off (cellsOf v)) (putAt cs' off v'.cells.toList) := by
          refine ⟨by rw [putAt_length, putAt_length]; exact hc.1, fun j a b ha hb => ?_⟩
          rw [putAt_get _ _ _ _ (by omega)] at ha
          rw [putAt_get _ _ _ _ (by rw [← hcv.1, ← hc.1]; omega)] at hb
          rw [← hcv.1] at hb
          split at ha
          · rename_i hj; rw [if_pos hj] at hb; exact hcv.2 _ _ _ ha hb
          · rename_i hj; rw [if_neg hj] at hb; exact hc.2 _ _ _ ha hb
        obtain ⟨r', hr', hrel⟩ := fillL_rel place rest rest' _ _ r h hset (by simpa using hl) (fun k p p' a b => hp (k + 1) p p' (by simpa using a) (by simpa using b))
        refine ⟨r', ?_, hrel⟩
        unfold Instr.fill
        simp only [hpl, hcs]
        rw [if_neg (by simp; rw [← hc.1]; omega)]
        have hfold : (v'.cells.zipIdx.foldl (fun cs (x : Value × Nat) => cs.setIfInBounds (off + x.2) x.1) (⟨cs'⟩ : Array Value)) = ⟨putAt cs' off v'.cells.toList⟩ := by
          rw [← Array.foldl_toList, Array.toList_zipIdx]
          have gen : ∀ (l : List Value) (k : Nat) (a : List Value), (l.zipIdx k).foldl (fun (cs : Array Value) (x : Value × Nat) => cs.setIfInBounds (off + x.2) x.1) ⟨a⟩ = ⟨putAt a (off + k) l⟩ := by
            intro l
            induction l with
            | nil => intro k a; simp; cases a <;> cases (off + k) <;> rfl
            | cons x l ihl =>
              intro k a
              simp only [List.zipIdx_cons, List.foldl_cons]
              have : (⟨a⟩ : Array Value).setIfInBounds (off + k) x = ⟨a.set (off + k) x⟩ := by simp
              rw [this, ihl (k + 1)]
              congr 1
              have key : ∀ (a : List Value) (o : Nat), putAt (a.set o x) (o + 1) l = putAt a o (x :: l) := by
                intro a
                induction a with
                | nil => intro o; cases o <;> cases l <;> rfl
                | cons y a iha =>
                  intro o
                  cases o with
                  | zero => cases l <;> simp [putAt]
                  | succ o =>
                    simp only [List.set_cons_succ]
                    have := iha o
                    cases l with
                    | nil =>
                      simp only [putAt] at this ⊢
                      rw [← this]
                    | cons z l => simp only [putAt] at this ⊢; rw [this]
              exact key a (off + k)
          simpa using gen v'.cells.toList 0 cs'
        exact hfold ▸ hr'
      · rw [if_neg hcond] at h; cases h

theorem sim_fieldPlaces (w : World) : ∀ (fs : List Field) (ps : List (Nat × Nat)), fieldPlaces T fs = some ps → (fs.mapM fun f => do pure (f.offset, ← sizeOf f.type) : Sem (List (Nat × Nat))).run P w = .ok ps w
  | [], ps, h => by simp [fieldPlaces] at h; subst h; rfl
  | f :: fs, ps, h => by
    unfold fieldPlaces at h
    cases hs : T.size f.type with
    | none => simp [hs] at h
    | some n =>
      cases hr : fieldPlaces T fs with
      | none => simp [hs, hr] at h
      | some r =>
        simp only [hs, hr, Option.some.injEq] at h
        subst h
        have ih := sim_fieldPlaces w fs r hr
        simp only [List.mapM_cons, Sem.run_bind, run_size hT hs, Result.andThen_ok, Sem.run_pure, ih]

theorem sim_build {φ : Phi} {t : TypeId} {parts parts' : List (Nat × Value)} {v : Value} (h : build T t parts = some v) (hl : parts.length = parts'.length)
    (hp : ∀ (i : Nat) (p p' : Nat × Value), parts[i]? = some p → parts'[i]? = some p' → p.1 = p'.1 ∧ VRel φ p.2 p'.2) (w : World) : ∃ v', (Instr.build t ⟨parts'⟩).run P w = .ok v' w ∧ VRel φ v v' := by
  unfold build at h
  cases hz : T.zero t with
  | none => simp [hz] at h
  | some z =>
    have hzf := (hT.zero _ _ hz).2
    have hzc : LRel φ (cellsOf z) z.cells.toList := cells_one hzf.vrel
    cases hd : T.und t with
    | none => simp [hz, hd] at h
    | some d =>
      cases d <;> simp only [hz, hd] at h <;> try (cases h; done)
      · rename_i n elem
        cases hs : T.size elem with
        | none => simp [hs] at h
        | some k =>
          simp only [hs, Option.map_eq_some_iff] at h
          obtain ⟨cs, h, rfl⟩ := h
          obtain ⟨r', hr, hrel⟩ := fillL_rel _ parts parts' _ _ cs h hzc hl hp
          refine ⟨.agg ⟨r'⟩, ?_, .agg _ _ hrel.1 hrel.2⟩
          have hr2 : Instr.fill (fun i => some (i * k, k)) z.cells parts' = some ⟨r'⟩ := hr
          simp [Instr.build, run_zero hT hz, run_und hT hd, run_size hT hs, hr2]
      · rename_i fields
        cases hf : fieldPlaces T fields.toList with
        | none => simp [hf] at h
        | some ps =>
          simp only [hf, Option.map_eq_some_iff] at h
          obtain ⟨cs, h, rfl⟩ := h
          obtain ⟨r', hr, hrel⟩ := fillL_rel _ parts parts' _ _ cs h hzc hl hp
          refine ⟨.agg ⟨r'⟩, ?_, .agg _ _ hrel.1 hrel.2⟩
          have hm : (fields.mapM fun f => do pure (f.offset, ← sizeOf f.type) : Sem (Array (Nat × Nat))).run P w = .ok ⟨ps⟩ w := by
            have := sim_fieldPlaces hT w fields.toList ps hf
            rw [Array.mapM_eq_mapM_toList, Sem.run_map, this]
            rfl
          have hr2 : Instr.fill ((⟨ps⟩ : Array (Nat × Nat))[·]?) z.cells parts' = some ⟨r'⟩ := by
            have : (fun (i : Nat) => (⟨ps⟩ : Array (Nat × Nat))[i]?) = fun (i : Nat) => ps[i]? := by funext i; simp
            rw [this]; exact hr
          simp only [Instr.build, Sem.run_bind, run_zero hT hz, run_und hT hd, Result.andThen_ok, hm, hr2, Sem.run_pure]

end

end Go.Ev
