/-
  EV, PART D: the operations without memory: what the evaluator gives, the model's operation gives.
-/
import Derived.Test.YtelpkdjibjddlaaEvC
import Derived.Laws.Entries
import Derived.Laws.StructEq
import Derived.ChangeKeysEq
import Derived.Laws.MakeOwn
import Derived.Laws.AppendOwn
set_option linter.unusedSimpArgs false
set_option linter.unusedVariables false
namespace Go.Ev
open Go Go.RowKit
def operandOk (globs : Nat) : Operand → Bool
  | .const v => flatB 3 v
  | .global g => decide (g < globs)
  | _ => true
structure Tab.Ok (T : Tab) (P : Program) : Prop where
  und : ∀ t d,T.und t = some d → P.underlying t = some d
  size : ∀ t n,T.size t = some n → ∃ i,P.info? t = some i ∧ i.size = n
  bytes : ∀ t n,T.bytes t = some n → ∃ i,P.info? t = some i ∧ i.bytes = n
  zero : ∀ t v,T.zero t = some v → (∃ i,P.info? t = some i ∧ i.zero = some v) ∧ Flat v
  cmp : ∀ t,T.cmp t = true → ∃ i,P.info? t = some i ∧ i.comparable = true
  eqOk : ∀ t,T.eqOk t = true → P.stoodInHeld t = false ∧ P.eqGuardType P.depth t = false
section
variable {T : Tab} {P : Program} (hT : T.Ok P)
include hT
theorem run_und {t : TypeId} {d : TypeDesc} (h : T.und t = some d) (w : World) : (underlying t).run P w = .ok d w := run_underlying (hT.und t d h) w
theorem run_info {t : TypeId} {i : TypeInfo} (h : P.info? t = some i) (w : World) : (typeInfo t).run P w = .ok i w := by
  have _ := hT
  simp [typeInfo,h]
theorem run_size {t : TypeId} {n : Nat} (h : T.size t = some n) (w : World) : (sizeOf t).run P w = .ok n w := by
  obtain ⟨i,hi,hn⟩ := hT.size t n h
  simp [sizeOf,typeInfo,hi,hn]
theorem run_zero {t : TypeId} {v : Value} (h : T.zero t = some v) (w : World) : (zeroValue t).run P w = .ok v w := by
  obtain ⟨⟨i,hi,hz⟩,_⟩ := hT.zero t v h
  simp [zeroValue,typeInfo,hi,hz]
theorem run_isAgg {t : TypeId} {d : TypeDesc} (h : T.und t = some d) (w : World) : (isAgg t).run P w = .ok (isAggD d) w := by
  simp only [isAgg,Sem.run_bind,run_und hT h,Result.andThen_ok]
  cases d <;> rfl
omit hT in
theorem LRel.extract {φ : Phi} {c c' : Array Value} (h : LRel φ c.toList c'.toList) (o n : Nat) : LRel φ ((c.toList.drop o).take n) (c'.extract o (o + n)).toList := by
  have := (h.drop o).take n
  rw [Array.toList_extract,List.extract_eq_take_drop]
  rwa [show o + n - o = n by omega]
theorem sim_part {φ : Phi} {t : TypeId} {c c' : Array Value} {o : Nat} {v : Value} (h : part T t c.toList o = some v) (hc : LRel φ c.toList c'.toList) (w : World) :
    ∃ v',(Go.part t c' o).run P w = .ok v' w ∧ VRel φ v v' := by
  unfold part at h
  cases hd : T.und t with
  | none => simp [hd] at h
  | some d =>
    simp only [hd] at h
    by_cases ha : isAggD d = true
    · rw [if_pos ha] at h
      cases hn : T.size t with
      | none => simp [hn] at h
      | some n =>
        simp only [hn,Option.some.injEq] at h
        subst h
        refine ⟨.agg (c'.extract o (o + n)),?_,.agg _ _ (hc.extract o n).1 (hc.extract o n).2⟩
        simp [Go.part,run_isAgg hT hd,ha,run_size hT hn]
    · rw [if_neg ha] at h
      obtain ⟨v',h1,h2⟩ := hc.get h
      have ha' : isAggD d = false := by simpa using ha
      refine ⟨v',?_,h2⟩
      rw [Array.getElem?_toList] at h1
      simp [Go.part,run_isAgg hT hd,ha',h1]
theorem sim_fieldsEq {φ : Phi} (D : Nat) (eq : TypeId → Value → Value → Option Bool) (hq : ∀ t x y b x' y' (w : World),eq t x y = some b → VRel φ x x' → VRel φ y y' → (Op.equalIn D t x' y').run P w = .ok b w)
    (xs ys xs' ys' : Array Value) (hx : LRel φ xs.toList xs'.toList) (hy : LRel φ ys.toList ys'.toList) (w : World) :
    ∀ (fs : List Field) (b : Bool),fieldsEq T eq fs xs.toList ys.toList = some b → (Op.eqFields D xs' ys' fs).run P w = .ok b w
  | [],b,h => by simp [fieldsEq] at h; subst h; rfl
  | f :: fs,b,h => by
    unfold fieldsEq at h
    by_cases hn : f.name = "_"
    · rw [if_pos hn] at h; cases h
    · rw [if_neg hn] at h
      cases ha : part T f.type xs.toList f.offset with
      | none => simp [ha] at h
      | some a =>
        cases hb : part T f.type ys.toList f.offset with
        | none => simp [ha,hb] at h
        | some c =>
          simp only [ha,hb] at h
          obtain ⟨a',ra,va⟩ := sim_part hT ha hx w
          obtain ⟨c',rc,vc⟩ := sim_part hT hb hy w
          simp only [Op.eqFields,hn,ne_eq,not_false_eq_true,if_true,Sem.run_bind,ra,rc,Result.andThen_ok]
          cases he : eq f.type a c with
          | none => simp [he] at h
          | some r =>
            rw [hq _ _ _ _ _ _ w he va vc]
            cases r with
            | false => simp only [he,Option.some.injEq] at h; subst h; rfl
            | true =>
              simp only [he] at h
              simpa using sim_fieldsEq D eq hq xs ys xs' ys' hx hy w fs b h
theorem sim_elemsEq {φ : Phi} (D : Nat) (eq : TypeId → Value → Value → Option Bool) (hq : ∀ t x y b x' y' (w : World),eq t x y = some b → VRel φ x x' → VRel φ y y' → (Op.equalIn D t x' y').run P w = .ok b w)
    (e n : Nat) (xs ys xs' ys' : Array Value) (hx : LRel φ xs.toList xs'.toList) (hy : LRel φ ys.toList ys'.toList) (w : World) :
    ∀ (is : List Nat) (b : Bool),elemsEq T eq e n is xs.toList ys.toList = some b → (Op.eqItems D e n xs' ys' is).run P w = .ok b w
  | [],b,h => by simp [elemsEq] at h; subst h; rfl
  | i :: is,b,h => by
    unfold elemsEq at h
    cases ha : part T e xs.toList (i * n) with
    | none => simp [ha] at h
    | some a =>
      cases hb : part T e ys.toList (i * n) with
      | none => simp [ha,hb] at h
      | some c =>
        simp only [ha,hb] at h
        obtain ⟨a',ra,va⟩ := sim_part hT ha hx w
        obtain ⟨c',rc,vc⟩ := sim_part hT hb hy w
        simp only [Op.eqItems,Sem.run_bind,ra,rc,Result.andThen_ok]
        cases he : eq e a c with
        | none => simp [he] at h
        | some r =>
          rw [hq _ _ _ _ _ _ w he va vc]
          cases r with
          | false => simp only [he,Option.some.injEq] at h; subst h; rfl
          | true =>
            simp only [he] at h
            simpa using sim_elemsEq D eq hq e n xs ys xs' ys' hx hy w is b h
theorem run_struct_eq (d : Nat) (t : TypeId) (fs : Array Field) (xs ys : Array Value) (ht : P.underlying t = some (.struct fs)) (hp : P.stoodInHeld t = false) (w : World) :
    (Op.equalIn (d + 1) t (.agg xs) (.agg ys)).run P w = (Op.eqFields d xs ys fs.toList).run P w := by
  have _ := hT
  have hf : P.fieldsOf t = fs := by simp [Program.fieldsOf,ht]
  have := run_equalIn_struct (P := P) w d t xs ys (by rw [hf]; exact ht) hp
  rwa [hf] at this
theorem cellsOf_size {t : TypeId} {n : Nat} (h : T.size t = some n) : P.cellsOf t = n := by
  obtain ⟨i,hi,hn⟩ := hT.size t n h
  simp [Program.cellsOf,hi,hn]
set_option maxHeartbeats 2000000 in
theorem sim_equal {φ : Phi} : ∀ (d : Nat) (t : TypeId) (x y : Value) (b : Bool) (x' y' : Value) (w : World),equalF T d t x y = some b → VRel φ x x' → VRel φ y y' → ∀ D,d < D → (Op.equalIn D t x' y').run P w = .ok b w := by
  intro d
  induction d with
  | zero => intro t x y b x' y' w h; simp [equalF] at h
  | succ d ih =>
    intro t x y b x' y' w h hx hy D hD
    obtain ⟨D,rfl⟩ : ∃ m,D = m + 1 := ⟨D - 1,by omega⟩
    unfold equalF at h
    cases hd : T.und t with
    | none => simp [hd] at h
    | some k =>
      have hu := run_und hT hd
      split at h <;> rename_i hk <;> (try (rw [hd] at hk; cases hk))
      · cases hx; cases hy; cases h; simp only [Op.equalIn,Sem.run_bind,hu,Result.andThen_ok,Sem.run_pure,Option.isNone]
      · cases hx; cases hy
        split at h
        · rename_i e; subst e; cases h; simp only [Op.equalIn,Sem.run_bind,hu,Result.andThen_ok,if_true,Sem.run_pure]
        · cases h
      · cases hx; cases hy; cases h; simp only [Op.equalIn,Sem.run_bind,hu,Result.andThen_ok,Sem.run_pure,beq_toListBytes,ByteArray.toList_eq]
      · cases hx
        cases hy <;> (cases h; simp only [Op.equalIn,Sem.run_bind,hu,Result.andThen_ok,Sem.run_pure,Option.isNone])
      · cases hx; cases hy; cases h; simp only [Op.equalIn,Sem.run_bind,hu,Result.andThen_ok,Sem.run_pure,Option.isNone]
      · rename_i elem N o N' o'
        cases hs : T.size elem with
        | none => simp [hs] at h
        | some n =>
          cases n with
          | zero => simp [hs] at h
          | succ n =>
            simp only [hs] at h
            split at h
            · rename_i e
              subst e
              cases h
              cases hx with
              | ptr hL =>
                cases hy with
                | ptr hL' =>
                  rw [hL] at hL'; cases hL'
                  simp only [Op.equalIn,Sem.run_bind,hu,Result.andThen_ok,run_size hT hs,sameAddr]
                  simp
                  rw [Bool.eq_iff_iff]; simp
            · cases h
      · cases hx; cases hy; cases h; simp only [Op.equalIn,Sem.run_bind,hu,Result.andThen_ok,Sem.run_pure,Option.isNone]
      · cases hx; cases hy; cases h; simp only [Op.equalIn,Sem.run_bind,hu,Result.andThen_ok,Sem.run_pure,Option.isNone]
      · cases hx; cases hy; cases h; simp only [Op.equalIn,Sem.run_bind,hu,Result.andThen_ok,Sem.run_pure,Option.isNone]
      · rename_i tx k a ty k' c
        cases hx with
        | iface _ hx => cases hy with
          | iface _ hy =>
            cases hx; cases hy
            simp only [Op.equalIn,Sem.run_bind,hu,Result.andThen_ok]
            by_cases e : tx = ty
            · subst e
              rw [if_neg (by simp)] at h ⊢
              split at h
              · rename_i k0 hk hc
                obtain ⟨i,hi,hcm⟩ := hT.cmp _ hc
                split at h
                · rename_i e; subst e; cases h
                  obtain ⟨D,rfl⟩ : ∃ m,D = m + 1 := ⟨D - 1,by omega⟩
                  simp only [Sem.run_bind,run_info hT hi,Result.andThen_ok,hcm,Bool.not_true,Bool.false_eq_true,if_false]
                  simp only [Op.equalIn,Sem.run_bind,run_und hT hk,Result.andThen_ok,if_true,Sem.run_pure]
                · cases h
              · cases h
            · rw [if_pos e] at h ⊢; cases h; rfl
      · rename_i fields xs ys
        cases hx with
        | agg _ xs' h1 h2 =>
          cases hy with
          | agg _ ys' h3 h4 =>
            split at h
            · rename_i hok
              rw [run_struct_eq hT D t fields xs' ys' (hT.und _ _ hd) (hT.eqOk t hok).1]
              exact sim_fieldsEq hT D (equalF T d) (fun t x y b x' y' w h a c => ih t x y b x' y' w h a c D (by omega)) xs ys xs' ys' ⟨h1,h2⟩ ⟨h3,h4⟩ w _ b h
            · cases h
      · rename_i len elem xs ys
        cases hx with
        | agg _ xs' h1 h2 =>
          cases hy with
          | agg _ ys' h3 h4 =>
            split at h
            · cases hs : T.size elem with
              | none => simp [hs] at h
              | some n =>
                simp only [hs] at h
                obtain ⟨i,hi,hn⟩ := hT.size _ _ hs
                rw [run_equalIn_array w D xs' ys' (hT.und _ _ hd) hi,cellsOf_size hT hs]
                exact sim_elemsEq hT D (equalF T d) (fun t x y b x' y' w h a c => ih t x y b x' y' w h a c D (by omega)) elem n xs ys xs' ys' ⟨h1,h2⟩ ⟨h3,h4⟩ w _ b h
            · cases h
      · cases hx; cases hy <;> (cases h; simp only [Op.equalIn,Sem.run_bind,hu,Result.andThen_ok,Sem.run_pure,Option.isNone])
      · cases hy; cases hx <;> (cases h; simp only [Op.equalIn,Sem.run_bind,hu,Result.andThen_ok,Sem.run_pure,Option.isNone])
      · cases hx; cases hy <;> (cases h; simp only [Op.equalIn,Sem.run_bind,hu,Result.andThen_ok,Sem.run_pure,Option.isNone])
      · cases hx; cases hy; cases h; simp only [Op.equalIn,Sem.run_bind,hu,Result.andThen_ok,Sem.run_pure,Option.isNone]
      · cases hx; cases hy; cases h; simp only [Op.equalIn,Sem.run_bind,hu,Result.andThen_ok,Sem.run_pure,Option.isNone]
      · cases hx; cases hy <;> (cases h; simp only [Op.equalIn,Sem.run_bind,hu,Result.andThen_ok,Sem.run_pure,Option.isNone])
      · cases hy; cases hx <;> (cases h; simp only [Op.equalIn,Sem.run_bind,hu,Result.andThen_ok,Sem.run_pure,Option.isNone])
      · cases h
omit hT in
theorem fillL_rel {φ : Phi} (place : Nat → Option (Nat × Nat)) : ∀ (parts parts' : List (Nat × Value)) (cs cs' : List Value) (r : List Value),fillL place cs parts = some r → LRel φ cs cs' →
    parts.length = parts'.length → (∀ (i : Nat) (p p' : Nat × Value),parts[i]? = some p → parts'[i]? = some p' → p.1 = p'.1 ∧ VRel φ p.2 p'.2) →
    ∃ r' : List Value,Instr.fill place ⟨cs'⟩ parts' = some ⟨r'⟩ ∧ LRel φ r r'
  | [],parts',cs,cs',r,h,hc,hl,hp => by
    have : parts' = [] := List.eq_nil_of_length_eq_zero (by simpa using hl.symm)
    subst this
    simp [fillL] at h; subst h
    exact ⟨cs',rfl,hc⟩
  | (i,v) :: rest,[],cs,cs',r,h,hc,hl,hp => by simp at hl
  | (i,v) :: rest,(i',v') :: rest',cs,cs',r,h,hc,hl,hp => by
    obtain ⟨hi,hv⟩ := hp 0 _ _ rfl rfl
    simp only at hi hv
    subst hi
    unfold fillL at h
    cases hpl : place i with
    | none => simp [hpl] at h
    | some os =>
      obtain ⟨off,size⟩ := os
      simp only [hpl] at h
      by_cases hcond : (cellsOf v).length = size ∧ off + size ≤ cs.length
      · rw [if_pos hcond] at h
        have hcv := cells_one hv
        have hcs : v'.cells.size = size := by rw [← Array.length_toList,← hcv.1]; exact hcond.1
        have hset : LRel φ (putAt cs off (cellsOf v)) (putAt cs' off v'.cells.toList) := by
          refine ⟨by rw [putAt_length,putAt_length]; exact hc.1,fun j a b ha hb => ?_⟩
          rw [putAt_get _ _ _ _ (by omega)] at ha
          rw [putAt_get _ _ _ _ (by rw [← hcv.1,← hc.1]; omega)] at hb
          rw [← hcv.1] at hb
          split at ha
          · rename_i hj; rw [if_pos hj] at hb; exact hcv.2 _ _ _ ha hb
          · rename_i hj; rw [if_neg hj] at hb; exact hc.2 _ _ _ ha hb
        obtain ⟨r',hr',hrel⟩ := fillL_rel place rest rest' _ _ r h hset (by simpa using hl) (fun k p p' a b => hp (k + 1) p p' (by simpa using a) (by simpa using b))
        refine ⟨r',?_,hrel⟩
        unfold Instr.fill
        simp only [hpl,hcs]
        rw [if_neg (by simp; rw [← hc.1]; omega)]
        have hfold : (v'.cells.zipIdx.foldl (fun cs (x : Value × Nat) => cs.setIfInBounds (off + x.2) x.1) (⟨cs'⟩ : Array Value)) = ⟨putAt cs' off v'.cells.toList⟩ := by
          rw [← Array.foldl_toList,Array.toList_zipIdx]
          have gen : ∀ (l : List Value) (k : Nat) (a : List Value),(l.zipIdx k).foldl (fun (cs : Array Value) (x : Value × Nat) => cs.setIfInBounds (off + x.2) x.1) ⟨a⟩ = ⟨putAt a (off + k) l⟩ := by
            intro l
            induction l with
            | nil => intro k a; simp; cases a <;> cases (off + k) <;> rfl
            | cons x l ihl =>
              intro k a
              simp only [List.zipIdx_cons,List.foldl_cons]
              have : (⟨a⟩ : Array Value).setIfInBounds (off + k) x = ⟨a.set (off + k) x⟩ := by simp
              rw [this,ihl (k + 1)]
              congr 1
              have key : ∀ (a : List Value) (o : Nat),putAt (a.set o x) (o + 1) l = putAt a o (x :: l) := by
                intro a
                induction a with
                | nil => intro o; cases o <;> cases l <;> rfl
                | cons y a iha =>
                  intro o
                  cases o with
                  | zero => cases l <;> simp [putAt]
                  | succ o =>
                    simp only [List.set_cons_succ]
                    have := iha o
                    cases l with
                    | nil =>
                      simp only [putAt] at this ⊢
                      rw [← this]
                    | cons z l => simp only [putAt] at this ⊢; rw [this]
              exact key a (off + k)
          simpa using gen v'.cells.toList 0 cs'
        exact hfold ▸ hr'
      · rw [if_neg hcond] at h; cases h
theorem sim_fieldPlaces (w : World) : ∀ (fs : List Field) (ps : List (Nat × Nat)),fieldPlaces T fs = some ps → (fs.mapM fun f => do pure (f.offset,← sizeOf f.type) : Sem (List (Nat × Nat))).run P w = .ok ps w
  | [],ps,h => by simp [fieldPlaces] at h; subst h; rfl
  | f :: fs,ps,h => by
    unfold fieldPlaces at h
    cases hs : T.size f.type with
    | none => simp [hs] at h
    | some n =>
      cases hr : fieldPlaces T fs with
      | none => simp [hs,hr] at h
      | some r =>
        simp only [hs,hr,Option.some.injEq] at h
        subst h
        have ih := sim_fieldPlaces w fs r hr
        simp only [List.mapM_cons,Sem.run_bind,run_size hT hs,Result.andThen_ok,Sem.run_pure,ih]
theorem sim_build {φ : Phi} {t : TypeId} {parts parts' : List (Nat × Value)} {v : Value} (h : build T t parts = some v) (hl : parts.length = parts'.length)
    (hp : ∀ (i : Nat) (p p' : Nat × Value),parts[i]? = some p → parts'[i]? = some p' → p.1 = p'.1 ∧ VRel φ p.2 p'.2) (w : World) : ∃ v',(Instr.build t ⟨parts'⟩).run P w = .ok v' w ∧ VRel φ v v' := by
  unfold build at h
  cases hz : T.zero t with
  | none => simp [hz] at h
  | some z =>
    have hzf := (hT.zero _ _ hz).2
    have hzc : LRel φ (cellsOf z) z.cells.toList := cells_one hzf.vrel
    cases hd : T.und t with
    | none => simp [hz,hd] at h
    | some d =>
      cases d <;> simp only [hz,hd] at h <;> try (cases h; done)
      · rename_i n elem
        cases hs : T.size elem with
        | none => simp [hs] at h
        | some k =>
          simp only [hs,Option.map_eq_some_iff] at h
          obtain ⟨cs,h,rfl⟩ := h
          obtain ⟨r',hr,hrel⟩ := fillL_rel _ parts parts' _ _ cs h hzc hl hp
          refine ⟨.agg ⟨r'⟩,?_,.agg _ _ hrel.1 hrel.2⟩
          have hr2 : Instr.fill (fun i => some (i * k,k)) z.cells parts' = some ⟨r'⟩ := hr
          simp [Instr.build,run_zero hT hz,run_und hT hd,run_size hT hs,hr2]
      · rename_i fields
        cases hf : fieldPlaces T fields.toList with
        | none => simp [hf] at h
        | some ps =>
          simp only [hf,Option.map_eq_some_iff] at h
          obtain ⟨cs,h,rfl⟩ := h
          obtain ⟨r',hr,hrel⟩ := fillL_rel _ parts parts' _ _ cs h hzc hl hp
          refine ⟨.agg ⟨r'⟩,?_,.agg _ _ hrel.1 hrel.2⟩
          have hm : (fields.mapM fun f => do pure (f.offset,← sizeOf f.type) : Sem (Array (Nat × Nat))).run P w = .ok ⟨ps⟩ w := by
            have := sim_fieldPlaces hT w fields.toList ps hf
            rw [Array.mapM_eq_mapM_toList,Sem.run_map,this]
            rfl
          have hr2 : Instr.fill ((⟨ps⟩ : Array (Nat × Nat))[·]?) z.cells parts' = some ⟨r'⟩ := by
            have : (fun (i : Nat) => (⟨ps⟩ : Array (Nat × Nat))[i]?) = fun (i : Nat) => ps[i]? := by funext i; simp
            rw [this]; exact hr
          simp only [Instr.build,Sem.run_bind,run_zero hT hz,run_und hT hd,Result.andThen_ok,hm,hr2,Sem.run_pure]
end
end Go.Ev

/-
  EV, PART E: more operations without memory.
-/
namespace Go.Ev
open Go Go.RowKit
section
variable {T : Tab} {P : Program} (hT : T.Ok P)
include hT
theorem run_eqGuard {φ : Phi} (op : BinOp) (t : TypeId) (cx cy : Operand) {x y x' y' : Value} {b : Bool} (hx : VRel φ x x') (hy : VRel φ y y') (h : equalF T 50 t x y = some b)
    (hc : nilPair (Ev.isConst cx || Ev.isConst cy) x y = true) (w : World) : (eqGuard op t cx cy x' y').run P w = .ok () w := by
  cases hx with
  | bool => rw [eqGuard_at_bool]; rfl
  | int => rw [eqGuard_at_int]; rfl
  | string => rw [eqGuard_at_string]; rfl
  | ptrNil => rw [eqGuard_at_pointer]; rfl
  | ptr => rw [eqGuard_at_pointer]; rfl
  | sliceNil => rw [eqGuard_at_slice]; rfl
  | sliceEx => rw [eqGuard_at_slice]; rfl
  | sliceEnd => rw [eqGuard_at_slice]; rfl
  | sliceGone => rw [eqGuard_at_slice]; rfl
  | mapNil => rw [eqGuard_at_map]; rfl
  | map => rw [eqGuard_at_map]; rfl
  | func => rw [eqGuard_at_func]; rfl
  | yield => rw [eqGuard_at_func]; rfl
  | nilFunc => rw [eqGuard_at_nilFunc]; rfl
  | iface => rw [eqGuard_at_iface]; rfl
  | tuple => rw [eqGuard_at_tuple]; rfl
  | nilIface =>
    cases hy <;> first
      | (rw [eqGuard_nil_iface]; rfl)
      | (cases op <;> rfl)
      | skip
    cases cx <;> cases cy <;> first
      | (rw [eqGuard_nil_constR]; rfl)
      | (rw [eqGuard_nil_constL]; rfl)
      | (simp [nilPair,Ev.isConst] at hc)
  | agg a a' h1 h2 =>
    cases hy <;> first
      | (cases op <;> rfl)
      | skip
    have hok : T.eqOk t = true := by
      unfold equalF at h
      cases hd : T.und t with
      | none => simp [hd] at h
      | some d =>
        cases d <;> simp only [hd] at h <;> first | (cases h; done) | (by_cases e : T.eqOk t = true; exact e; rw [if_neg e] at h; cases h)
    exact run_eqGuard_agg w op t cx cy _ _ (hT.eqOk t hok).2
theorem sim_intOp (op : BinOp) (t : TypeId) {k k' : IntKind} {a b : Int} {v : Value} (h : intOp op k a k' b = some v) (w : World) : (Go.binOp op t (.int k a) (.int k' b)).run P w = .ok v w ∧ Flat v := by
  have _ := hT
  unfold intOp at h
  by_cases hk : k = k'
  · subst hk
    cases op <;> simp only [if_true] at h <;> first
      | (cases h; done)
      | (split at h
         · cases h
         · rename_i hz; cases h; exact ⟨by simp [binOp_shl,binOp_shr,binOp_quo,binOp_rem,Op.shift,Op.intDiv,hz],.int _ _⟩)
      | (cases h; exact ⟨by simp [binOp_add,binOp_sub,binOp_mul,binOp_and,binOp_or,binOp_xor,binOp_eql,binOp_neq,binOp_lss,binOp_leq,binOp_gtr,binOp_geq,Op.intArith,Op.intBits],by constructor⟩)
  · cases op <;> simp only [if_neg hk] at h <;> first
      | (cases h; done)
      | (split at h
         · cases h
         · rename_i hz; cases h; exact ⟨by simp [binOp_shl,binOp_shr,Op.shift,hz],.int _ _⟩)
theorem sim_stringOp (op : BinOp) (t : TypeId) {a b : ByteArray} {v : Value} (h : stringOp op a.data.toList b.data.toList = some v) (w : World) : (Go.binOp op t (.string a) (.string b)).run P w = .ok v w ∧ Flat v := by
  have _ := hT
  have hb : Go.binOp op t (.string a) (.string b) = Op.stringOp op a b := by cases op <;> rfl
  rw [hb]
  unfold stringOp at h
  cases op <;> simp only at h <;> first
    | (cases h; done)
    | (split at h
       · rename_i hl
         cases h
         refine ⟨?_,.string _⟩
         have ha : a.size = a.data.toList.length := Array.length_toList.symm
         have hb : b.size = b.data.toList.length := Array.length_toList.symm
         simp only [Op.stringOp]
         rw [if_neg (by rw [ha,hb,IntKind.max_i64]; clear ha hb; omega)]
         simp only [Sem.run_pure]
         congr 2
       · cases h)
    | (cases h; exact ⟨by simp only [Op.stringOp,ByteArray.toList_eq,Sem.run_pure],.bool _⟩)
theorem sim_binop {φ : Phi} (op : BinOp) (t : TypeId) (cx cy : Operand) {x y x' y' v : Value} (h : binop T op t (isConst cx || isConst cy) x y = some v) (hx : VRel φ x x') (hy : VRel φ y y') (w : World) :
    ∃ v',(do eqGuard op t cx cy x' y'; Go.binOp op t x' y' : Sem Value).run P w = .ok v' w ∧ VRel φ v v' := by
  unfold binop at h
  split at h
  · rename_i k a k' b
    cases hx; cases hy
    obtain ⟨h1,h2⟩ := sim_intOp hT op t h w
    exact ⟨v,by rw [eqGuard_at_int]; simpa using h1,h2.vrel⟩
  · rename_i a b
    cases hx; cases hy
    obtain ⟨h1,h2⟩ := sim_stringOp hT op t h w
    exact ⟨v,by rw [eqGuard_at_string]; simpa using h1,h2.vrel⟩
  · rename_i hni hns
    have heq : ∀ (neg : Bool) (op : BinOp) (_ : op = if neg then .neq else .eql),Go.binOp op t x' y' = (do pure (.bool (neg ^^ (← Op.equal t x' y'))) : Sem Value) := by
      intro neg op ho
      subst ho
      cases neg
      · simp only [Bool.false_eq_true,if_false,Bool.false_bne]
        unfold Go.binOp
        split <;> first
          | rfl
          | (cases hx; cases hy; exact (hni _ _ _ _ rfl rfl).elim)
          | (cases hx; cases hy; exact (hns _ _ rfl rfl).elim)
          | (cases hx; done)
          | (rename_i h1 h2; cases h1; done)
          | simp_all
      · simp only [if_true,Bool.true_bne]
        unfold Go.binOp
        split <;> first
          | rfl
          | (cases hx; cases hy; exact (hni _ _ _ _ rfl rfl).elim)
          | (cases hx; cases hy; exact (hns _ _ rfl rfl).elim)
          | (cases hx; done)
          | simp_all
    have fin : ∀ (neg : Bool) (op : BinOp) (_ : op = if neg then .neq else .eql) (b : Bool),equalF T 50 t x y = some b →
        nilPair (Ev.isConst cx || Ev.isConst cy) x y = true →
        (do eqGuard op t cx cy x' y'; Go.binOp op t x' y' : Sem Value).run P w = .ok (.bool (neg ^^ b)) w := by
      intro neg op ho b hb hc
      have he := sim_equal hT 50 t x y b x' y' w hb hx hy Op.maxDepth (by decide)
      have hg := run_eqGuard hT op t cx cy hx hy hb hc w
      rw [heq neg op ho]
      simp only [Sem.run_bind,hg,Result.andThen_ok,Op.equal,he,Sem.run_pure]
    cases op <;> simp only at h <;> try (cases h; done)
    · split at h
      · rename_i hc
        simp only [Option.map_eq_some_iff] at h
        obtain ⟨b,hb,rfl⟩ := h
        exact ⟨.bool b,by simpa using fin false .eql rfl b hb hc,.bool b⟩
      · cases h
    · split at h
      · rename_i hc
        simp only [Option.map_eq_some_iff] at h
        obtain ⟨b,hb,rfl⟩ := h
        exact ⟨.bool (!b),by simpa using fin true .neq rfl b hb hc,.bool _⟩
      · cases h
theorem sim_unop {φ : Phi} (op : UnOp) {x x' v : Value} (h : unop op x = some v) (hx : VRel φ x x') (w : World) : ∃ v',(Op.unary op x').run P w = .ok v' w ∧ VRel φ v v' := by
  have _ := hT
  unfold unop at h
  split at h
  · cases hx; cases h; exact ⟨_,rfl,.int _ _⟩
  · cases hx; cases h; exact ⟨_,rfl,.bool _⟩
  · cases h
theorem sim_field {φ : Phi} {t : TypeId} {x x' : Value} {i : Nat} {v : Value} (h : field T t x i = some v) (hx : VRel φ x x') (w : World) : ∃ v',(Instr.field t x' i).run P w = .ok v' w ∧ VRel φ v v' := by
  unfold field at h
  cases hd : T.und t with
  | none => simp [hd] at h
  | some d =>
    split at h
    · rename_i fields cs hk
      rw [hd] at hk; cases hk
      cases hx with
      | agg _ cs' h1 h2 =>
        split at h
        · rename_i f hf
          obtain ⟨v',hr,hv⟩ := sim_part hT h ⟨h1,h2⟩ w
          exact ⟨v',by simp [Instr.field,run_und hT hd,hf,asAgg,hr],hv⟩
        · cases h
    · cases h
omit hT in
theorem VRel.ptr' {φ : Phi} {N o k : Nat} {L : Loc} (h : φ N = some L) : VRel φ (.pointer (some ⟨N,o + k,none⟩)) (.pointer (some ⟨L.blk,L.off + o + k,none⟩)) := by
  rw [Nat.add_assoc]; exact .ptr h
theorem sim_fieldAddr {φ : Phi} {t : TypeId} {x x' : Value} {i : Nat} {v : Value} (h : fieldAddr T t x i = some v) (hx : VRel φ x x') (w : World) : ∃ v',(Instr.fieldAt t x' i).run P w = .ok v' w ∧ VRel φ v v' := by
  unfold fieldAddr at h
  cases hd : T.und t with
  | none => simp [hd] at h
  | some d =>
    split at h
    · rename_i fields N o hk
      rw [hd] at hk; cases hk
      split at h
      · rename_i f hf
        split at h
        · rename_i n hn
          cases h
          cases hx with
          | ptr hL =>
            refine ⟨_,?_,VRel.ptr' hL⟩
            simp [Instr.fieldAt,run_und hT hd,hf,Instr.sureAddr,fieldPlace,run_size hT hn,add_addr]
        · cases h
      · cases h
    · cases h
theorem sim_indexAddr {φ : Phi} {t : TypeId} {x x' ix ix' : Value} {v : Value} (h : indexAddr T t x ix = some v) (hx : VRel φ x x') (hi : VRel φ ix ix') (w : World) : ∃ v',(Instr.indexAt t x' ix').run P w = .ok v' w ∧ VRel φ v v' := by
  unfold indexAddr at h
  cases hd : T.und t with
  | none => simp [hd] at h
  | some d =>
    split at h
    · rename_i len elem N o k i hk
      rw [hd] at hk; cases hk
      split at h
      · rename_i n hn
        split at h
        · rename_i hc
          cases h
          cases hi
          cases hx with
          | ptr hL =>
            refine ⟨_,?_,VRel.ptr' hL⟩
            simp [Instr.indexAt,asIntOf,run_und hT hd,Instr.sureAddr,hc,run_size hT hn,add_addr]
        · cases h
      · cases h
    · rename_i elem N o len cap k i hk
      rw [hd] at hk; cases hk
      split at h
      · rename_i n hn
        split at h
        · rename_i hc
          cases h
          cases hi
          cases hx with
          | sliceEx _ _ hL _ =>
            refine ⟨_,?_,VRel.ptr' hL⟩
            simp [Instr.indexAt,asIntOf,run_und hT hd,hc,run_size hT hn,add_addr]
          | sliceEnd _ _ _ hL _ _ _ =>
            refine ⟨_,?_,VRel.ptr' hL⟩
            simp [Instr.indexAt,asIntOf,run_und hT hd,hc,run_size hT hn,add_addr]
          | sliceGone _ _ => omega
        · cases h
      · cases h
    · cases h
theorem sim_index {φ : Phi} {t : TypeId} {x x' ix ix' : Value} {v : Value} (h : index T t x ix = some v) (hx : VRel φ x x') (hi : VRel φ ix ix') (w : World) : ∃ v',(Instr.index t x' ix').run P w = .ok v' w ∧ VRel φ v v' := by
  unfold index at h
  cases hd : T.und t with
  | none => simp [hd] at h
  | some d =>
    split at h
    · rename_i len elem cs k i hk
      rw [hd] at hk; cases hk
      split at h
      · rename_i n hn
        split at h
        · rename_i hc
          cases hi
          cases hx with
          | agg _ cs' h1 h2 =>
            obtain ⟨v',hr,hv⟩ := sim_part hT h ⟨h1,h2⟩ w
            exact ⟨v',by simp [Instr.index,asIntOf,run_und hT hd,hc,run_size hT hn,hr],hv⟩
        · cases h
      · cases h
    · rename_i s k i hk
      rw [hd] at hk; cases hk
      cases hi; cases hx
      split at h
      · rename_i hc
        simp only [Option.map_eq_some_iff] at h
        obtain ⟨b,hb,rfl⟩ := h
        have hb' : s[i.toNat]? = some b := by
          rw [Array.getElem?_toList] at hb
          obtain ⟨hlt,hb⟩ := Array.getElem?_eq_some_iff.1 hb
          have hlt' : i.toNat < s.size := hlt
          rw [getElem?_pos s i.toNat hlt']
          exact congrArg some hb
        refine ⟨_,?_,.int _ _⟩
        simp [Instr.index,asIntOf,run_und hT hd,hc,hb']
      · cases h
    · cases h
theorem sim_typeAssert {φ : Phi} {x x' v : Value} {xt a : TypeId} {ok : Bool} (h : typeAssert T x a ok = some v) (hx : VRel φ x x') (w : World) : ∃ v',(Instr.typeAssert x' xt a ok).run P w = .ok v' w ∧ VRel φ v v' := by
  unfold typeAssert at h
  cases hd : T.und a with
  | none => simp [hd] at h
  | some d =>
    have pair : ∀ {v v' : Value} (b : Bool),VRel φ v v' → VRel φ (.tuple #[v,.bool b]) (.tuple #[v',.bool b]) := fun b hv =>
      .tuple _ _ rfl (LRel.cons hv (LRel.one (.bool b))).2
    split at h
    · cases h
    · rename_i d' hni hk
      rw [hd] at hk; cases hk
      cases hx
      split at h
      · rename_i hok
        simp only [Option.map_eq_some_iff] at h
        obtain ⟨z,hz,rfl⟩ := h
        refine ⟨.tuple #[z,.bool false],?_,pair _ (hT.zero _ _ hz).2.vrel⟩
        simp only [Instr.typeAssert,Sem.run_bind,run_und hT hd,Result.andThen_ok]
        cases d <;> first
          | exact absurd rfl (hni _)
          | simp [hok,run_zero hT hz]
      · cases h
    · rename_i d' t u hni hk
      rw [hd] at hk; cases hk
      cases hx with
      | iface _ hu =>
        split at h
        · rename_i e
          subst e
          cases h
          rename_i u'
          refine ⟨if ok then .tuple #[u',.bool true] else u',?_,?_⟩
          · simp only [Instr.typeAssert,Sem.run_bind,run_und hT hd,Result.andThen_ok]
            cases d <;> first
              | exact absurd rfl (hni _)
              | simp
          · cases ok
            · exact hu
            · exact pair _ hu
        · rename_i hne
          split at h
          · rename_i hok
            simp only [Option.map_eq_some_iff] at h
            obtain ⟨z,hz,rfl⟩ := h
            refine ⟨.tuple #[z,.bool false],?_,pair _ (hT.zero _ _ hz).2.vrel⟩
            simp only [Instr.typeAssert,Sem.run_bind,run_und hT hd,Result.andThen_ok]
            cases d <;> first
              | exact absurd rfl (hni _)
              | simp [hok,hne,run_zero hT hz]
          · cases h
    · cases h
end
end Go.Ev

/-
  EV, PART F: the operations that read, lay and write memory (append and copy: part G).
-/
namespace Go.Ev
open Go Go.RowKit
def Came (φ : Phi) (B : Base) (s : St) (w : World) (v : Value) (s' : St) (r : Result Value) : Prop :=
  ∃ φ' w' v',r = .ok v' w' ∧ s.next ≤ s'.next ∧ Grows B φ φ' s.next s'.next ∧ Rel φ' B s'.t.get w' ∧ VRel φ' v v' ∧ Keeps φ s.t.get w w'
theorem Came.same {φ : Phi} {B : Base} {s : St} {w : World} {v v' : Value} {r : Result Value} (hR : Rel φ B s.t.get w) (h : r = .ok v' w) (hv : VRel φ v v') : Came φ B s w v s r :=
  ⟨φ,w,v',h,Nat.le_refl _,.refl _ _ _,hR,hv,.refl _ _ _⟩
theorem lift_some {α : Type} {o : Option α} {s s' : St} {a : α} (h : lift o s = some (a,s')) : o = some a ∧ s' = s := by
  unfold lift at h
  cases o with
  | none => cases h
  | some b => simp at h; exact ⟨by rw [h.1],h.2.symm⟩
theorem bnd_some {α β : Type} {m : M α} {f : α → M β} {s s' : St} {b : β} (h : bnd m f s = some (b,s')) : ∃ a s1,m s = some (a,s1) ∧ f a s1 = some (b,s') := by
  unfold bnd at h
  cases hm : m s with
  | none => simp [hm] at h
  | some p => obtain ⟨a,s1⟩ := p; simp [hm] at h; exact ⟨a,s1,rfl,h⟩
theorem ret_some {α : Type} {a b : α} {s s' : St} (h : ret a s = some (b,s')) : b = a ∧ s' = s := by
  simp [ret] at h; exact ⟨h.1.symm,h.2.symm⟩
theorem rowOf_some {N : Nat} {s s' : St} {r : List Value × TypeId × Nat} (h : rowOf N s = some (r,s')) : s.t.get N = some (.cells r.1 r.2.1 r.2.2) ∧ s' = s := by
  unfold rowOf at h
  split at h
  · rename_i vs e hi hN
    simp at h
    obtain ⟨h1,h2⟩ := h
    subst h1
    exact ⟨hN,h2.symm⟩
  · cases h
theorem newB_some {b : Blk} {s s' : St} {N : Nat} (h : newB b s = some (N,s')) : N = s.next ∧ s' = { s with t := s.t.set s.next (some b),next := s.next + 1 } := by
  simp [newB] at h; exact ⟨h.1.symm,h.2.symm⟩
theorem setB_some {N : Nat} {b : Blk} {s s' : St} {u : Unit} (h : setB N b s = some (u,s')) : (∃ b0,s.t.get N = some b0) ∧ s' = { s with t := s.t.set N (some b),mods := N :: s.mods } := by
  unfold setB at h
  cases hN : s.t.get N with
  | none => simp [hN] at h
  | some b0 => simp [hN] at h; exact ⟨⟨b0,rfl⟩,h.symm⟩
theorem delB_some {N : Nat} {s s' : St} {u : Unit} (h : delB N s = some (u,s')) : (∃ b0,s.t.get N = some b0) ∧ s' = { s with t := s.t.set N none,mods := N :: s.mods } := by
  unfold delB at h
  cases hN : s.t.get N with
  | none => simp [hN] at h
  | some b0 => simp [hN] at h; exact ⟨⟨b0,rfl⟩,h.symm⟩
theorem addr_some {v v' : Value} {s s' : St} {p : Nat × Nat} (h : addr v s = some (p,s')) : v = .pointer (some ⟨p.1,p.2,none⟩) ∧ s' = s := by
  unfold addr at h
  split at h
  · obtain ⟨h1,h2⟩ := ret_some h; subst h1; exact ⟨rfl,h2⟩
  · cases h
section
variable {T : Tab} {P : Program} (hT : T.Ok P)
include hT
theorem sim_loadVar {φ : Phi} {B : Base} {s s' : St} {w : World} (hR : Rel φ B s.t.get w) {t : TypeId} {N o : Nat} {v : Value} (h : loadVar T t N o s = some (v,s')) :
    s' = s ∧ ∃ L v',φ N = some L ∧ (Go.loadVar t ⟨L.blk,L.off + o,none⟩).run P w = .ok v' w ∧ VRel φ v v' := by
  unfold loadVar at h
  obtain ⟨⟨vs,e,hi⟩,s1,h1,h2⟩ := bnd_some h
  obtain ⟨hN,rfl⟩ := rowOf_some h1
  simp only at h2 hN
  cases hd : T.und t with
  | none => simp [hd,fail] at h2
  | some d =>
    simp only [hd] at h2
    by_cases ha : isAggD d = true
    · rw [if_pos ha] at h2
      cases hn : T.size t with
      | none => simp [hn,fail] at h2
      | some n =>
        simp only [hn] at h2
        cases hs : slice vs o n with
        | none => simp [hs,fail] at h2
        | some cs =>
          simp only [hs] at h2
          obtain ⟨rfl,rfl⟩ := ret_some h2
          obtain ⟨L,r',hL,hr,hrun⟩ := hR.cells hN (P := P) hs
          exact ⟨rfl,L,.agg ⟨r'⟩,hL,by simp [Go.loadVar,run_isAgg hT hd,ha,run_size hT hn,hrun],.agg _ _ hr.1 hr.2⟩
    · rw [if_neg ha] at h2
      have ha' : isAggD d = false := by simpa using ha
      cases hv : vs[o]? with
      | none => simp [hv,fail] at h2
      | some x =>
        simp only [hv] at h2
        obtain ⟨rfl,rfl⟩ := ret_some h2
        obtain ⟨L,hL,hc⟩ := hR.cell hN
        obtain ⟨v',hc',hv'⟩ := hc o _ hv
        exact ⟨rfl,L,v',hL,by simp [Go.loadVar,run_isAgg hT hd,ha',hc'],hv'⟩
theorem sim_load {φ : Phi} {B : Base} {s s' : St} {w : World} (hR : Rel φ B s.t.get w) {t : TypeId} {a a' v : Value} (ha : VRel φ a a')
    (h : bnd (addr a) (fun p => loadVar T t p.1 p.2) s = some (v,s')) : s' = s ∧ ∃ v',(Instr.loadAt t a').run P w = .ok v' w ∧ VRel φ v v' := by
  obtain ⟨⟨N,o⟩,s1,h1,h2⟩ := bnd_some h
  obtain ⟨rfl,rfl⟩ := addr_some (v' := a') h1
  cases ha with
  | ptr hL =>
    obtain ⟨h3,L,v',hL',hrun,hv⟩ := sim_loadVar hT hR h2
    rw [hL] at hL'; cases hL'
    exact ⟨h3,v',by simpa [Instr.loadAt,Instr.sureAddr] using hrun,hv⟩
theorem sim_storeCells {φ : Phi} {B : Base} {s s' : St} {w : World} (hR : Rel φ B s.t.get w) {N o : Nat} {vs vs' : List Value} {u : Unit} (hv : LRel φ vs vs')
    (h : storeCells N o vs s = some (u,s')) : s'.next = s.next ∧ (vs = [] ∧ s' = s ∨ vs ≠ [] ∧ ∃ L w',φ N = some L ∧ (Go.storeCells ⟨L.blk,L.off + o,none⟩ vs').run P w = .ok () w' ∧ Rel φ B s'.t.get w' ∧ Keeps φ s.t.get w w') := by
  have _ := hT
  unfold storeCells at h
  split at h
  · obtain ⟨_,rfl⟩ := ret_some h; exact ⟨rfl,.inl ⟨rfl,rfl⟩⟩
  · rename_i hne
    obtain ⟨⟨cs,e,hi⟩,s1,h1,h2⟩ := bnd_some h
    obtain ⟨hN,rfl⟩ := rowOf_some h1
    simp only at h2 hN
    split at h2
    · rename_i hc
      obtain ⟨_,rfl⟩ := setB_some h2
      obtain ⟨L,w',hL,hrun,hR',hK⟩ := hR.store hN hc.1 hv hc.2.2.2 hc.2.1 hc.2.2.1 P
      exact ⟨rfl,.inr ⟨hne,L,w',hL,hrun,by rw [get_upd]; exact hR',hK⟩⟩
    · cases h2
theorem sim_store {φ : Phi} {B : Base} {s s' : St} {w : World} (hR : Rel φ B s.t.get w) {t : TypeId} {a a' x x' : Value} {u : Unit} (ha : VRel φ a a') (hx : VRel φ x x')
    (h : bnd (addr a) (fun p => storeVar T t p.1 p.2 x) s = some (u,s')) : s'.next = s.next ∧ ∃ w',(Instr.storeAt t a' x').run P w = .ok () w' ∧ Rel φ B s'.t.get w' ∧ Keeps φ s.t.get w w' := by
  obtain ⟨⟨N,o⟩,s1,h1,h2⟩ := bnd_some h
  obtain ⟨rfl,rfl⟩ := addr_some (v' := a') h1
  unfold storeVar at h2
  cases hn : T.size t with
  | none => simp [hn,fail] at h2
  | some n =>
    simp only [hn] at h2
    split at h2
    · rename_i hlen
      have hcs := cells_one hx
      cases ha with
      | @ptr _ _ L hL =>
        have hsz : x'.cells.size = n := by rw [← Array.length_toList,← hcs.1]; exact hlen
        obtain ⟨h3,h4⟩ := sim_storeCells (P := P) hT hR hcs h2
        rcases h4 with ⟨he,rfl⟩ | ⟨_,L',w',hL',hrun,hR',hK⟩
        · refine ⟨rfl,w,?_,hR,.refl _ _ _⟩
          have : x'.cells.toList = [] := by have := hcs.1; rw [he] at this; exact List.eq_nil_of_length_eq_zero this.symm
          simp [Instr.storeAt,Instr.sureAddr,Go.storeVar,run_size hT hn,hsz,this,Go.storeCells]
        · rw [hL] at hL'; cases hL'
          exact ⟨h3,w',by simpa [Instr.storeAt,Instr.sureAddr,Go.storeVar,run_size hT hn,hsz] using hrun,hR',hK⟩
    · cases h2
theorem sim_newRow {φ : Phi} {B : Base} {s : St} {w : World} (hR : Rel φ B s.t.get w) (hf : φ s.next = none) {e : TypeId} {vs : List Value} {c : Array Value} (hc : LRel φ vs c.toList) :
    Grows B φ (φ.add s.next ⟨w.heap.size,0,c.size⟩) s.next (s.next + 1) ∧ Rel (φ.add s.next ⟨w.heap.size,0,c.size⟩) B (s.t.set s.next (some (.cells vs e 0))).get (w.alloc (.cells c e)) :=
  have _ := hT
  ⟨.add _ hf hR.newOk,by rw [get_upd]; exact hR.newRow hf vs c e 0 (0,0) (by rw [hc.1]; simp) hc.cells (fun _ => .inl rfl)⟩
theorem sim_newVar {φ : Phi} {B : Base} {s s' : St} {w : World} (hR : Rel φ B s.t.get w) (hf : Fresh φ s.next s'.next) {t : TypeId} {x x' v : Value} (hx : VRel φ x x')
    (h : newRow t (cellsOf x) s = some (v,s')) : Came φ B s w v s' ((do pure (.pointer (some (← newVar t x'))) : Sem Value).run P w) := by
  unfold newRow at h
  obtain ⟨N,s1,h1,h2⟩ := bnd_some h
  obtain ⟨rfl,rfl⟩ := newB_some h1
  obtain ⟨rfl,rfl⟩ := ret_some h2
  obtain ⟨hg,hR'⟩ := sim_newRow (T := T) (P := P) hT hR (hf s.next (Nat.le_refl _) (by simp)) (e := t) (cells_one hx)
  refine ⟨_,w.alloc (.cells x'.cells t),.pointer (some ⟨w.heap.size,0,none⟩),?_,by simp,hg,hR',?_,.alloc _ _ _ _⟩
  · simp [newVar,Go.newRow]
  · exact VRel.ptr (L := ⟨w.heap.size,0,x'.cells.size⟩) (Phi.add_same _ _ _)
end
end Go.Ev

/-
  EV, PART G: slices: cut, made, measured, converted.
-/
namespace Go.Ev
open Go Go.RowKit
inductive QRel (φ : Phi) : Option Value → Option Value → Prop
  | none : QRel φ none none
  | some {v v' : Value} (h : VRel φ v v') : QRel φ (some v) (some v')
theorem run_sliceBound {φ : Phi} {v v' : Value} {n y : Nat} (hv : VRel φ v v') (h : bound (some v) 0 = some n) (hn : n ≤ y) (code : BoundsCode) (P : Program) (w : World) :
    (Instr.sliceBound v' y code).run P w = .ok n w := by
  cases hv <;> simp only [bound] at h <;> try (cases h; done)
  rename_i k i
  split at h
  · rename_i h0
    cases h
    have : 0 ≤ i ∧ i ≤ (y : Int) := ⟨h0,by omega⟩
    simp [Instr.sliceBound,asIntOf,this]
  · cases h
theorem bound_some {v : Option Value} {d n : Nat} {v1 : Value} (e : v = some v1) (h : bound v d = some n) : bound (some v1) 0 = some n := by
  subst e; cases v1 <;> exact h
theorem run_sliceBounds {φ : Phi} {low low' high high' : Option Value} {l h len cap : Nat} (hl : QRel φ low low') (hh : QRel φ high high') (bl : bound low 0 = some l) (bh : bound high len = some h)
    (h1 : l ≤ h) (h2 : h ≤ cap) (isSlice : Bool) (P : Program) (w : World) : (Instr.sliceBounds isSlice len cap low' high' none).run P w = .ok (l,h,cap) w := by
  unfold Instr.sliceBounds
  simp only [Sem.run_bind,Sem.run_pure,Result.andThen_ok]
  cases hh with
  | none =>
    simp [bound] at bh
    subst bh
    simp only [Sem.run_pure,Result.andThen_ok]
    cases hl with
    | none => simp [bound] at bl; subst bl; simp
    | some hv =>
      have e1 := fun code => run_sliceBound hv (bound_some rfl bl) h1 code P w
      simp [e1]
  | some hv2 =>
    have e2 := fun code => run_sliceBound hv2 (bound_some rfl bh) h2 code P w
    simp only [e2,Result.andThen_ok]
    cases hl with
    | none => simp [bound] at bl; subst bl; simp [e2]
    | some hv =>
      have e1 := fun code => run_sliceBound hv (bound_some rfl bl) h1 code P w
      simp [e1,e2]
theorem run_sliceBounds3 {φ : Phi} {low low' high high' : Option Value} {mx mx' : Value} {l h m len cap : Nat} (hl : QRel φ low low') (hh : QRel φ high high') (hm : VRel φ mx mx') (hs : high'.isSome)
    (bl : bound low 0 = some l) (bh : bound high len = some h) (bm : bound (some mx) 0 = some m)
    (h1 : l ≤ h) (h2 : h ≤ m) (h3 : m ≤ cap) (isSlice : Bool) (P : Program) (w : World) : (Instr.sliceBounds isSlice len cap low' high' (some mx')).run P w = .ok (l,h,m) w := by
  unfold Instr.sliceBounds
  simp only [Sem.run_bind,run_sliceBound hm bm h3 _ P w,Result.andThen_ok]
  cases hh with
  | none => cases hs
  | some hv2 =>
    have e2 := fun code => run_sliceBound hv2 (bound_some rfl bh) h2 code P w
    simp only [e2,Result.andThen_ok]
    cases hl with
    | none => simp [bound] at bl; subst bl; simp [e2]
    | some hv =>
      have e1 := fun code => run_sliceBound hv (bound_some rfl bl) h1 code P w
      simp [e1,e2]
section
variable {T : Tab} {P : Program} (hT : T.Ok P)
include hT
theorem sim_sliceOp {φ : Phi} {t : TypeId} {x x' v : Value} {low low' high high' max max' : Option Value} (h : sliceOp T t x low high max = some v) (hx : VRel φ x x') (hlo : QRel φ low low') (hhi : QRel φ high high')
    (hmx : QRel φ max max') (hms : max.isSome = true → high.isSome = true) (w : World) : ∃ v',(Instr.sliceAt t x' low' high' max').run P w = .ok v' w ∧ VRel φ v v' := by
  unfold sliceOp at h
  cases hd : T.und t with
  | none => simp [hd] at h
  | some d =>
    split at h
    · rename_i s hk
      rw [hd] at hk; cases hk
      cases hx
      simp only at h
      split at h
      · rename_i l hh bl bh
        split at h
        · rename_i hc
          cases h
          obtain ⟨c1,c2,c3⟩ := hc
          cases hmx with
          | some _ => simp at c1
          | none =>
            have hsz : s.data.toList.length = s.size := Array.length_toList
            rw [hsz] at bh c3
            have hb := run_sliceBounds hlo hhi bl bh c2 c3 false P w
            refine ⟨.string (s.extract l hh),?_,?_⟩
            · simp [Instr.sliceAt,run_und hT hd,Instr.slice,hb]
            · have : (⟨⟨(s.data.toList.drop l).take (hh - l)⟩⟩ : ByteArray) = s.extract l hh := by
                have he := Lib.extract_data s l hh
                rw [← he]
              rw [this]; exact .string _
        · cases h
      · cases h
    · rename_i elem a len cap hk
      rw [hd] at hk; cases hk
      split at h
      · rename_i n l hh hn bl bh
        split at h
        · cases hmx
          split at h
          · rename_i hcap
            split at h
            · rename_i hc
              obtain ⟨c1,c2,c3⟩ := hc
              cases hx with
              | sliceNil _ _ hlt => omega
              | sliceEx _ _ _ hlt => omega
              | sliceGone a' cap' =>
                have : hh = 0 := by omega
                have : l = 0 := by omega
                subst_vars
                rw [if_neg (by omega),if_pos rfl] at h
                cases h
                have hb := run_sliceBounds (cap := cap') hlo hhi bl bh (by omega) (by omega) true P w
                refine ⟨.slice (some a') 0 cap',?_,?_⟩
                · simp only [Instr.sliceAt,Sem.run_bind,run_und hT hd,Result.andThen_ok,Instr.slice,hb,run_size hT hn,Sem.run_pure]
                  by_cases e : cap' = 0
                  · simp [e]
                  · simp [e,Addr.add]
                · exact .sliceGone _ _
              | @sliceEnd N o L _ es cap' hL hcp hll hes =>
                have : es = n := by omega
                subst this
                have hb := run_sliceBounds (cap := cap') hlo hhi bl bh c2 (by omega) true P w
                split at h
                · rename_i hlt
                  cases h
                  refine ⟨.slice (some ⟨L.blk,L.off + o + l * es,none⟩) (hh - l) (cap' - l),?_,?_⟩
                  · simp only [Instr.sliceAt,Sem.run_bind,run_und hT hd,Result.andThen_ok,Instr.slice,hb,run_size hT hn,Sem.run_pure]
                    rw [if_neg (by omega)]
                    simp [add_addr]
                  · simp only [Option.map_some]
                    rw [Nat.add_assoc L.off]
                    refine .sliceEnd _ _ _ hL ?_ (by omega) hes
                    have : cap' * es = l * es + (cap' - l) * es := by rw [← Nat.add_mul]; congr 1; omega
                    omega
                · rename_i hnlt
                  split at h
                  · rename_i hl0
                    cases h
                    subst hl0
                    have : hh = 0 := by omega
                    subst this
                    refine ⟨.slice (some ⟨L.blk,L.off + o,none⟩) 0 cap',?_,.sliceEnd _ _ _ hL hcp (Nat.zero_le _) hes⟩
                    simp only [Instr.sliceAt,Sem.run_bind,run_und hT hd,Result.andThen_ok,Instr.slice,hb,run_size hT hn,Sem.run_pure]
                    by_cases e : cap' = 0
                    · simp [e]
                    · simp [e,Addr.add]
                  · cases h
                    have : hh = l := by omega
                    subst this
                    simp only [Instr.sliceAt,Sem.run_bind,run_und hT hd,Result.andThen_ok,Instr.slice,hb,run_size hT hn,Sem.run_pure,Nat.sub_self]
                    by_cases e : cap' = hh
                    · exact ⟨.slice (some ⟨L.blk,L.off + o,none⟩) 0 (cap' - hh),by rw [if_pos e],.sliceGone _ _⟩
                    · exact ⟨.slice (some (Addr.add ⟨L.blk,L.off + o,none⟩ (hh * es))) 0 (cap' - hh),by rw [if_neg e]; rfl,.sliceGone _ _⟩
            · cases h
          · rename_i hcap
            split at h
            · rename_i hc
              cases h
              cases hx with
              | sliceNil _ _ hlt =>
                have hb := run_sliceBounds hlo hhi bl bh hc.1 hc.2 true P w
                refine ⟨.slice none (hh - l) (cap - l),?_,?_⟩
                · simp [Instr.sliceAt,run_und hT hd,Instr.slice,hb,run_size hT hn]
                · simp; exact .sliceNil _ _ (by omega)
              | @sliceEx N o L _ _ hL hlt =>
                have hb := run_sliceBounds hlo hhi bl bh hc.1 hc.2 true P w
                simp only [Instr.sliceAt,Sem.run_bind,run_und hT hd,Result.andThen_ok,Instr.slice,hb,run_size hT hn,Sem.run_pure]
                by_cases e : cap = l
                · exact ⟨.slice (some ⟨L.blk,L.off + o,none⟩) (hh - l) (cap - l),by rw [if_pos e],by rw [if_pos e]; exact .sliceEx _ _ hL (by omega)⟩
                · refine ⟨.slice (some ⟨L.blk,L.off + (o + l * n),none⟩) (hh - l) (cap - l),?_,?_⟩
                  · simp [if_neg e,add_addr,Nat.add_assoc]
                  · rw [if_neg e]; exact .sliceEx _ _ hL (by omega)
              | sliceEnd => omega
              | sliceGone => omega
            · cases h
        · rename_i mv
          cases hmx with
          | some hmv =>
            split at h
            · rename_i m bm
              by_cases hc : l ≤ hh ∧ hh ≤ m ∧ (if END ≤ cap then m ≤ len ∧ cap = END + n ∧ n < END ∧ m < END else m ≤ cap)
              · rw [if_pos hc] at h
                obtain ⟨c1,c2,c3⟩ := hc
                cases h
                have hhs : high'.isSome = true := by
                  have := hms rfl
                  cases hhi <;> simp_all
                cases hx with
                | sliceNil _ _ hlt =>
                  rw [if_neg (by omega)] at c3
                  have hb := run_sliceBounds3 (cap := cap) hlo hhi hmv hhs bl bh bm c1 c2 c3 true P w
                  refine ⟨.slice none (hh - l) (m - l),?_,?_⟩
                  · simp [Instr.sliceAt,run_und hT hd,Instr.slice,hb,run_size hT hn]
                  · simp; exact .sliceNil _ _ (by omega)
                | @sliceEx N o L _ _ hL hlt =>
                  rw [if_neg (by omega)] at c3
                  have hb := run_sliceBounds3 (cap := cap) hlo hhi hmv hhs bl bh bm c1 c2 c3 true P w
                  simp only [Instr.sliceAt,Sem.run_bind,run_und hT hd,Result.andThen_ok,Instr.slice,hb,run_size hT hn,Sem.run_pure]
                  by_cases e : m = l
                  · exact ⟨.slice (some ⟨L.blk,L.off + o,none⟩) (hh - l) (m - l),by rw [if_pos e],by rw [if_pos e]; exact .sliceEx _ _ hL (by omega)⟩
                  · refine ⟨.slice (some ⟨L.blk,L.off + (o + l * n),none⟩) (hh - l) (m - l),?_,?_⟩
                    · simp [if_neg e,add_addr,Nat.add_assoc]
                    · rw [if_neg e]; exact .sliceEx _ _ hL (by omega)
                | @sliceEnd N o L _ es cap' hL hcp hll hes =>
                  rw [if_pos (by omega)] at c3
                  have hb := run_sliceBounds3 (cap := cap') hlo hhi hmv hhs bl bh bm c1 c2 (by omega) true P w
                  simp only [Instr.sliceAt,Sem.run_bind,run_und hT hd,Result.andThen_ok,Instr.slice,hb,run_size hT hn,Sem.run_pure]
                  by_cases e : m = l
                  · exact ⟨.slice (some ⟨L.blk,L.off + o,none⟩) (hh - l) (m - l),by rw [if_pos e],by rw [if_pos e]; exact .sliceEx _ _ hL (by omega)⟩
                  · refine ⟨.slice (some ⟨L.blk,L.off + (o + l * n),none⟩) (hh - l) (m - l),?_,?_⟩
                    · simp [if_neg e,add_addr,Nat.add_assoc]
                    · rw [if_neg e]; exact .sliceEx _ _ hL (by omega)
                | sliceGone a' cap' =>
                  rw [if_pos (by omega)] at c3
                  omega
              · rw [if_neg hc] at h; cases h
            · cases h
      · cases h
    · rename_i k elem N o hk
      rw [hd] at hk; cases hk
      split at h
      · rename_i n l hh hn bl bh
        cases hmx
        split at h
        · rename_i hc
          cases h
          cases hx with
          | @ptr _ _ L hL =>
            have hb := run_sliceBounds hlo hhi bl bh hc.1 hc.2.1 false P w
            simp only [Instr.sliceAt,Sem.run_bind,run_und hT hd,Result.andThen_ok,Instr.sureAddr,Sem.run_pure,hb,run_size hT hn]
            by_cases e : k = l
            · exact ⟨.slice (some ⟨L.blk,L.off + o,none⟩) (hh - l) (k - l),by rw [if_pos e],by rw [if_pos e]; exact .sliceEx _ _ hL (by omega)⟩
            · refine ⟨.slice (some ⟨L.blk,L.off + (o + l * n),none⟩) (hh - l) (k - l),?_,?_⟩
              · simp [if_neg e,add_addr,Nat.add_assoc]
              · rw [if_neg e]; exact .sliceEx _ _ hL (by omega)
        · cases h
      · cases h
    · cases h
end
end Go.Ev

/-
  EV, PART H: append.
-/
namespace Go.Ev
open Go Go.RowKit
theorem lenOf_rel {φ : Phi} {x x' : Value} {n : Nat} (h : lenOf x = some n) (hx : VRel φ x x') (P : Program) (w : World) : (Builtin.lenOf x').run P w = .ok n w := by
  cases hx <;> simp only [lenOf] at h <;> try (cases h; done)
  · rename_i s
    cases h
    rw [show s.data.toList.length = s.size from Array.length_toList]; rfl
  all_goals (cases h; rfl)
theorem byteVals_lrel {φ : Phi} (l : List UInt8) : LRel φ (byteVals l) (byteVals l) := Flat.lrel fun v hv => by
  simp only [byteVals,List.mem_map] at hv
  obtain ⟨b,_,rfl⟩ := hv
  exact .int _ _
theorem sim_firstCells {φ : Phi} {B : Base} {s s' : St} {w : World} (hR : Rel φ B s.t.get w) {n size : Nat} {x x' : Value} {l : List Value} (hx : VRel φ x x') (h : firstCells n size x s = some (l,s')) (P : Program) :
    s' = s ∧ ∃ l',LRel φ l l' ∧ (Builtin.firstCells size n x').run P w = .ok ⟨l'⟩ w := by
  have zero : ∀ (a : Addr),(Go.loadCells a (0 * size)).run P w = .ok ⟨[]⟩ w := fun a => by
    rw [Nat.zero_mul]; rfl
  unfold firstCells at h
  split at h
  · rename_i N o _ _
    split at h
    · rename_i hn
      obtain ⟨rfl,rfl⟩ := ret_some h
      refine ⟨rfl,[],.nil,?_⟩
      subst hn
      cases hx <;> exact zero _
    · split at h
      · rename_i hn hle
        obtain ⟨⟨vs,e,hi⟩,s1,h1,h2⟩ := bnd_some h
        obtain ⟨hN,rfl⟩ := rowOf_some h1
        simp only at h2 hN
        obtain ⟨hr,rfl⟩ := lift_some h2
        obtain ⟨L,r',hL,hrel,hrun⟩ := hR.cells hN (P := P) hr
        refine ⟨rfl,r',hrel,?_⟩
        cases hx with
        | sliceEx _ _ hL' _ => rw [hL] at hL'; cases hL'; exact hrun
        | sliceEnd _ _ _ hL' _ _ _ => rw [hL] at hL'; cases hL'; exact hrun
        | sliceGone a' _ => omega
      · cases h
  · obtain ⟨rfl,rfl⟩ := ret_some h
    cases hx
    exact ⟨rfl,[],.nil,rfl⟩
  · rename_i b
    obtain ⟨rfl,rfl⟩ := ret_some h
    cases hx
    refine ⟨rfl,byteVals (b.data.toList.take n),byteVals_lrel _,?_⟩
    simp only [Builtin.firstCells,Sem.run_pure]
    congr 1
    apply Array.ext'
    rw [Array.toList_map,Lib.extract_data]
    simp [byteVals]
  · cases h
theorem Rel.adopt {φ : Phi} {B : Base} {H : Nat → Option Blk} {w : World} (h : Rel φ B H w) {n : Nat} (hn : φ n = none) (b : Blk) (L : Loc) (hin : L.blk < w.heap.size)
    (hap : ∀ N b' L',H N = some b' → φ N = some L' → L'.blk ≠ L.blk) (hb : BRel φ B L b w) : Rel (φ.add n L) B (upd H n (some b)) w := by
  have hle := Phi.le_add L hn
  have old : ∀ {N L'},N ≠ n → φ.add n L N = some L' → φ N = some L' := fun hN e => by
    unfold Phi.add at e; rwa [if_neg hN] at e
  refine ⟨h.base,fun N b' e => ?_,fun N N' b1 b2 L1 L2 hne e1 e2 l1 l2 hwr => ?_,fun N L' e => ?_⟩
  · by_cases hN : N = n
    · subst hN
      rw [upd_same] at e; cases e
      exact ⟨L,Phi.add_same _ _ _,hb.mono hle⟩
    · rw [upd_ne _ _ hN] at e
      obtain ⟨L',hL',r⟩ := h.blk N b' e
      exact ⟨L',hle _ _ hL',r.mono hle⟩
  · by_cases h1 : N = n
    · subst h1
      rw [Phi.add_same] at l1; cases l1
      rw [upd_ne _ _ (Ne.symm hne)] at e2
      exact Ne.symm (hap N' b2 L2 e2 (old (Ne.symm hne) l2))
    · by_cases h2 : N' = n
      · subst h2
        rw [Phi.add_same] at l2; cases l2
        rw [upd_ne _ _ h1] at e1
        exact hap N b1 L1 e1 (old h1 l1)
      · rw [upd_ne _ _ h1] at e1
        rw [upd_ne _ _ h2] at e2
        exact h.apart N N' b1 b2 L1 L2 hne e1 e2 (old h1 l1) (old h2 l2) hwr
  · unfold Phi.add at e
    by_cases hN : N = n
    · rw [if_pos hN] at e; cases e; exact hin
    · rw [if_neg hN] at e; exact h.inw _ _ e
section
variable {T : Tab} {P : Program} (hT : T.Ok P)
include hT
theorem run_append_new {φ : Phi} {B : Base} {s : St} {w : World} (hR : Rel φ B s.t.get w) {sT xT ty elem : TypeId} {dx : TypeDesc} (hs : T.und sT = some (.slice elem)) (hx : T.und xT = some dx) (hdx : appendable dx = true)
    {size bytes : Nat} {z : Value} (hsz : T.size elem = some size) (hby : T.bytes elem = some bytes) (hz : T.zero elem = some z) {base : Option Addr} {sLen sCap n : Nat} {x x' : Value} (hn : lenOf x = some n) (hxr : VRel φ x x')
    {base' : Option Addr} {sCap' : Nat} {old new : List Value} (hold : firstCells sLen size (.slice base sLen sCap) s = some (old,s)) (hbase : VRel φ (.slice base sLen sCap) (.slice base' sLen sCap'))
    (hnew : firstCells n size x s = some (new,s)) (hroom : sCap' < sLen + n) (hb : (sLen + n) * bytes ≤ 140737488355328) (hlt : sLen + n < END) (hsize : 0 < size)
    (hnl : new.length = n * size) (hol : old.length = sLen * size) (hzl : (cellsOf z).length = size) :
    ∃ c cap',c.size = cap' * size ∧ sLen + n ≤ cap' ∧ (∀ (i : Nat) v,(old ++ new)[i]? = some v → ∃ v',c[i]? = some v' ∧ VRel φ v v') ∧
      (Builtin.append_ #[sT,xT] ty #[.slice base' sLen sCap',x']).run P w = .ok (.slice (some ⟨w.heap.size,0,none⟩) (sLen + n) cap') (w.drew.alloc (.cells c elem)) := by
  obtain ⟨⟨i,hi,hz1⟩,hzf⟩ := hT.zero _ _ hz
  have hisz : i.size = size := by obtain ⟨j,hj,e⟩ := hT.size _ _ hsz; rw [hi] at hj; cases hj; exact e
  have hiby : i.bytes = bytes := by obtain ⟨j,hj,e⟩ := hT.bytes _ _ hby; rw [hi] at hj; cases hj; exact e
  have hRd : Rel φ B s.t.get w.drew := hR.heap rfl
  obtain ⟨_,old',ho1,ho2⟩ := sim_firstCells hRd hbase hold P
  obtain ⟨_,new',hn1,hn2⟩ := sim_firstCells hRd hxr hnew P
  have hzs : z.cells.size = size := by rw [← Array.length_toList]; exact hzl
  have hfit := growslice_fits (old := sCap') (bytes := bytes) hroom hb
  have hEND : END = 4611686018427387904 := rfl
  have hge := grownCap_ge w (sLen + n) sCap' elem
  generalize hcap : grownCap w (sLen + n) sCap' elem = cap' at hge
  refine ⟨⟨old'⟩ ++ ⟨new'⟩ ++ Builtin.zeroCells z.cells (cap' - (sLen + n)),cap',?_,hge,?_,?_⟩
  · simp only [Array.size_append,List.size_toArray,size_zeroCells,hzs,← ho1.1,← hn1.1,hol,hnl,← Nat.add_mul]
    congr 1; omega
  · intro j v hv
    obtain ⟨v',hv1,hv2⟩ := (ho1.append hn1).get hv
    refine ⟨v',?_,hv2⟩
    have hj : j < (old' ++ new').length := (List.getElem?_eq_some_iff.1 hv1).1
    rw [← Array.getElem?_toList]
    simp only [Array.toList_append]
    rw [List.getElem?_append_left (by simpa using hj)]
    exact hv1
  · have hm : ((TypeDesc.slice elem) matches .int _) = false := rfl
    have h1 : ¬ (sLen + n ≤ sCap') := by omega
    have h2 : ¬ (((sLen + n : Nat) : Int) > IntKind.i64.max) := by rw [IntKind.max_i64]; omega
    have h3 : ¬ (Builtin.nextslicecap (sLen + n) sCap' * bytes > 2 ^ 48) := by have : (2 : Nat) ^ 48 = 281474976710656 := rfl; omega
    have hc : (Question.appendCap (sLen + n) sCap' elem).cut (w.tape w.drawn (.appendCap (sLen + n) sCap' elem)) = cap' := hcap
    cases dx <;> simp only [appendable] at hdx <;> try (cases hdx; done)
    all_goals
      simp only [Builtin.append_,List.getElem?_toArray,List.getElem?_cons_zero,List.getElem?_cons_succ,Sem.run_bind,run_und hT hs,run_und hT hx,run_size hT hsz,Result.andThen_ok,Sem.run_pure,Bool.false_eq_true,if_false,lenOf_rel hn hxr,h1,h2,false_and,run_info hT hi,hiby,h3,
        run_choose_drew,Question.forced,run_askRoom,ho2,Bool.not_false,if_true,hn2,run_zero hT hz,Go.newRow,run_newObj_alloc,hc]
      rfl
theorem run_append_fits' {φ : Phi} {B : Base} {s : St} {w w2 : World} (hR : Rel φ B s.t.get w) {sT xT ty elem : TypeId} {dx : TypeDesc} (hs : T.und sT = some (.slice elem)) (hx : T.und xT = some dx) (hdx : appendable dx = true)
    {size : Nat} (hsz : T.size elem = some size) {sLen n : Nat} {x x' : Value} (hn : lenOf x = some n) (hxr : VRel φ x x')
    {base' : Option Addr} {sCap' : Nat} {new new' : List Value} (hnew : firstCells n size x s = some (new,s)) (hroom : sLen + n ≤ sCap')
    (hnew' : (Builtin.firstCells size n x').run P w = .ok ⟨new'⟩ w)
    (hst : ∀ a,base' = some a → (Go.storeCells (a.add (sLen * size)) new').run P w = .ok () w2) (hno : base' = none → w2 = w) :
    (Builtin.append_ #[sT,xT] ty #[.slice base' sLen sCap',x']).run P w = .ok (.slice base' (sLen + n) sCap') w2 := by
  cases dx <;> simp only [appendable] at hdx <;> try (cases hdx; done)
  all_goals
    cases base' with
    | none =>
      simp only [Builtin.append_,List.getElem?_toArray,List.getElem?_cons_zero,List.getElem?_cons_succ,Sem.run_bind,run_und hT hs,run_und hT hx,run_size hT hsz,Result.andThen_ok,Sem.run_pure,Bool.false_eq_true,if_false,lenOf_rel hn hxr,
        if_pos hroom,Bool.not_false,if_true,hnew']
      rw [hno rfl]
    | some a =>
      simp only [Builtin.append_,List.getElem?_toArray,List.getElem?_cons_zero,List.getElem?_cons_succ,Sem.run_bind,run_und hT hs,run_und hT hx,run_size hT hsz,Result.andThen_ok,Sem.run_pure,Bool.false_eq_true,if_false,lenOf_rel hn hxr,
        if_pos hroom,Bool.not_false,if_true,hnew',hst a rfl]
omit hT in
theorem Keeps.grow {φ : Phi} {H : Nat → Option Blk} {w : World} {o : Obj} : Keeps φ H w (w.drew.alloc o) :=
  ⟨rfl,rfl,rfl,by rw [size_alloc]; show w.heap.size ≤ w.heap.size + 1; omega,fun _ hk => .inl (heap_alloc_old w.drew o hk)⟩
omit hT in
theorem Rel.strike {φ : Phi} {B : Base} {H : Nat → Option Blk} {w w' : World} (h : Rel φ B H w) {N : Nat} {b : Blk} {L : Loc} (hN : H N = some b) (hL : φ N = some L) (hw : wr b)
    (hsz : w'.heap.size = w.heap.size) (hk : ∀ k,k ≠ L.blk → w'.heap[k]? = w.heap[k]?) : Rel φ B (upd H N none) w' := by
  have live : ∀ {M m},upd H N none M = some m → M ≠ N ∧ H M = some m := fun {M m} e => by
    by_cases hM : M = N
    · subst hM; rw [upd_same] at e; cases e
    · exact ⟨hM,by rwa [upd_ne _ _ hM] at e⟩
  refine ⟨hsz ▸ h.base,fun M m e => ?_,fun M M' m m' L1 L2 hne e1 e2 l1 l2 hwr => h.apart M M' m m' L1 L2 hne (live e1).2 (live e2).2 l1 l2 hwr,fun M L' e => hsz ▸ h.inw M L' e⟩
  obtain ⟨hM,e⟩ := live e
  obtain ⟨L',hL',r⟩ := h.blk M m e
  exact ⟨L',hL',r.congr (hk _ (Ne.symm (h.apart N M b m L L' (Ne.symm hM) hN e hL hL' hw)))⟩
omit hT in
theorem slice_length {vs r : List Value} {o n : Nat} (h : slice vs o n = some r) : r.length = n ∧ r = (vs.drop o).take n := by
  unfold slice at h
  simp only at h
  split at h
  · rename_i hl; cases h; exact ⟨hl,rfl⟩
  · cases h
set_option maxHeartbeats 1000000 in
theorem sim_appendEnd {φ : Phi} {B : Base} (hBz : B.sz = P.cellsOf) {s s' : St} {w : World} (hR : Rel φ B s.t.get w) (hf : Fresh φ s.next s'.next) {sT xT ty elem : TypeId} {dx : TypeDesc} (hsT : T.und sT = some (.slice elem)) (hxT : T.und xT = some dx) (hdx : appendable dx = true)
    {size bytes : Nat} {z : Value} (hsz : T.size elem = some size) (hby : T.bytes elem = some bytes) (hz : T.zero elem = some z) {N o sLen n : Nat} {x x' : Value} (hn : lenOf x = some n) (hx : VRel φ x x')
    {base' : Value} (hb : VRel φ (.slice (some ⟨N,o,none⟩) sLen (END + size)) base') {new : List Value} (hnew : firstCells n size x s = some (new,s)) {v : Value}
    (h : appendEnd elem size bytes sLen n (cellsOf z).length new N o s = some (v,s')) : Came φ B s w v s' ((Builtin.append_ #[sT,xT] ty #[base',x']).run P w) := by
  have hEND : END = 4611686018427387904 := rfl
  unfold appendEnd at h
  obtain ⟨⟨vs,e,hi⟩,s2,h3,h4⟩ := bnd_some h
  obtain ⟨hN,rfl⟩ := rowOf_some h3
  simp only at h4 hN
  obtain ⟨old,s3,h5,h6⟩ := bnd_some h4
  obtain ⟨hold,rfl⟩ := lift_some h5
  split at h6
  · rename_i hc
    obtain ⟨c2,c3,c4,c5,c6,c7,c8,c9,c10,c11,c12⟩ := hc
    obtain ⟨_,s4,h7,h8⟩ := bnd_some h6
    obtain ⟨_,rfl⟩ := delB_some h7
    obtain ⟨N',s5,h9,h10⟩ := bnd_some h8
    obtain ⟨rfl,rfl⟩ := newB_some h9
    obtain ⟨rfl,rfl⟩ := ret_some h10
    subst c2
    have hfr : φ s3.next = none := hf s3.next (Nat.le_refl _) (by simp)
    obtain ⟨hol,hold'⟩ := slice_length hold
    generalize hcq : END + size = cq at hb
    cases hb with
    | sliceEx _ _ _ hlt => omega
    | sliceGone _ _ => omega
    | @sliceEnd _ _ L _ es cap' hL hcp hll hes =>
      obtain rfl : es = size := by omega
      clear hcq
      obtain ⟨L2,hL2,c,fz,k1,k2,k3,k4,k5⟩ := hR.blk N _ hN
      rw [hL] at hL2; cases hL2
      obtain ⟨hB,hfz,hdv⟩ := k5 c5
      have hwr : wr (.cells vs e hi) := c5
      have hoc : o ≤ L.cap := by omega
      obtain ⟨_,new',hn1,hn2⟩ := sim_firstCells hR hx hnew P
      by_cases hroom : sLen + n ≤ cap'
      · -- there is room
        have hmul : (sLen + n) * es ≤ cap' * es := Nat.mul_le_mul_right _ hroom
        rw [Nat.add_mul] at hmul
        have hlen' : new'.length = n * es := by rw [← hn1.1]; exact c10
        have hcell : ∀ i,i < c.size → w.cell? ⟨L.blk,i,none⟩ = c[i]? := fun i _ => by simp [World.cell?,k1]
        have hrun := run_storeCells_cells (P := P) L.blk (L.off + o + sLen * es) new' 0 w (fun j hj => by
            rw [Nat.add_zero,hcell _ (by omega),Array.getElem?_eq_getElem (by omega)]; rfl)
          (fun j hj => not_frozen k1 (by omega))
          (fun v hv' => by
            obtain ⟨i,hi',rfl⟩ := List.getElem_of_mem hv'
            have hl : i < new.length := by rw [hn1.1]; exact hi'
            exact oneCell_eq (hn1.2 i new[i] new'[i] (List.getElem?_eq_getElem hl) (List.getElem?_eq_getElem hi')) (List.all_eq_true.1 c9 _ (List.getElem_mem hl)))
        obtain ⟨a1,a2,a3,a4,a5,c',a6,a7,a8⟩ := setCells_heap L.blk new' (L.off + o + sLen * es + 0) w c e fz k1
        rw [Nat.add_zero] at hrun a1 a2 a3 a4 a5 a6 a8
        generalize hw2 : w.setCells L.blk (L.off + o + sLen * es) new' = w2 at *
        have hRd : Rel φ B (upd s3.t.get N none) w2 := hR.strike hN hL hwr a4 a5
        have hRn := hRd.adopt hfr (.cells (old ++ new) e (hi - o)) ⟨L.blk,L.off + o,L.cap - o⟩ (by have := hR.inw _ _ hL; simp only; omega) (fun M b' L' e1 e2 => by
            by_cases hM : M = N
            · subst hM; rw [upd_same] at e1; cases e1
            · rw [upd_ne _ _ hM] at e1
              exact Ne.symm (hR.apart N M _ b' L L' (Ne.symm hM) hN e1 hL e2 hwr))
          ⟨c',fz,a6,by simp only [List.length_append,hol,c10]; omega,by simp only; omega,fun i v hv => by
              simp only
              rw [a8]
              by_cases hio : i < old.length
              · rw [List.getElem?_append_left hio] at hv
                rw [if_neg (by omega)]
                rw [hold',List.getElem?_take,if_pos (by omega),List.getElem?_drop] at hv
                obtain ⟨v',q1,q2⟩ := k4 _ _ hv
                exact ⟨v',by rw [Nat.add_assoc]; exact q1,q2⟩
              · rw [List.getElem?_append_right (by omega)] at hv
                obtain ⟨v',q1,q2⟩ := hn1.get hv
                have hlt : i - old.length < new.length := (List.getElem?_eq_some_iff.1 hv).1
                exact ⟨v',by rw [if_pos (by omega)]; rw [show L.off + o + i - (L.off + o + sLen * es) = i - old.length by omega]; exact q1,q2⟩,
            fun _ => ⟨hB,by simp only; omega,by simp only; rw [hBz,cellsOf_size hT hsz] at hdv ⊢; rw [Nat.add_mod,hdv,c12]; simp⟩⟩
        refine ⟨_,w2,.slice (some ⟨L.blk,L.off + o,none⟩) (sLen + n) cap',?_,by simp,.add ⟨L.blk,L.off + o,L.cap - o⟩ hfr hB,?_,?_,?_⟩
        · exact run_append_fits' hT hR hsT hxT hdx hsz hn hx hnew hroom hn2 (fun a ha => by cases ha; rw [add_addr]; exact hrun) (fun ha => by cases ha)
        · simp only
          rw [get_upd,get_upd]; exact hRn
        · have := VRel.sliceEnd (φ := φ.add s3.next ⟨L.blk,L.off + o,L.cap - o⟩) (N := s3.next) (o := 0) (L := ⟨L.blk,L.off + o,L.cap - o⟩) (sLen + n) es cap' (Phi.add_same _ _ _) (by simp only; omega) hroom hes
          exact this
        · exact Keeps.set hN hL hwr a1 a2 a3 a4 a5
      · -- there is none
        have hold0 : firstCells sLen es (.slice (some ⟨N,o,none⟩) sLen (END + es)) s3 = some (old,s3) := by
          simp only [firstCells]
          by_cases h0 : sLen = 0
          · subst h0
            have : old = [] := List.eq_nil_of_length_eq_zero (by omega)
            simp [this,ret]
          · rw [if_neg h0,if_pos (Nat.le_refl _)]
            unfold bnd rowOf
            simp only [hN,hold,lift]
        obtain ⟨cc,cap2,q1,q2,q3,q4⟩ := run_append_new (ty := ty) hT hR hsT hxT hdx hsz hby hz hn hx hold0 (.sliceEnd _ _ _ hL hcp hll hes) hnew (by omega) c7 c8 c3 c10 hol c11
        have hRd : Rel φ B (upd s3.t.get N none) w.drew := (hR.del N).heap rfl
        have hRn := hRd.newRow hfr (old ++ new) cc e (hi - o) (0,0) (by simp only [List.length_append,hol,c10]; rw [q1,← Nat.add_mul]; exact Nat.mul_le_mul_right _ q2) q3 (fun _ => .inl rfl)
        refine ⟨_,_,_,q4,by simp,.add ⟨w.heap.size,0,cc.size⟩ hfr hR.newOk,?_,?_,.grow⟩
        · simp only
          rw [get_upd,get_upd]; exact hRn
        · have := VRel.sliceEnd (φ := φ.add s3.next ⟨w.heap.size,0,cc.size⟩) (N := s3.next) (o := 0) (L := ⟨w.heap.size,0,cc.size⟩) (sLen + n) es cap2 (Phi.add_same _ _ _) (by simp only; omega) q2 hes
          exact this
  · cases h6
theorem sim_append {φ : Phi} {B : Base} (hBz : B.sz = P.cellsOf) {s s' : St} {w : World} (hR : Rel φ B s.t.get w) (hf : Fresh φ s.next s'.next) {ts : Array TypeId} {ty : TypeId} {args args' : List Value} (ha : LRel φ args args') {v : Value}
    (h : append T ts.toList args s = some (v,s')) : Came φ B s w v s' ((Builtin.append_ ts ty ⟨args'⟩).run P w) := by
  have hEND : END = 4611686018427387904 := rfl
  generalize hts : ts.toList = tl at h
  rcases tl with _ | ⟨sT,_ | ⟨xT,trest⟩⟩
  · cases h
  · cases h
  rcases args with _ | ⟨b,_ | ⟨x,_ | ⟨y,r⟩⟩⟩
  · cases h
  · cases h
  · simp only [append] at h
    obtain ⟨b',r1,rfl,hb,ha1⟩ := ha.cons_inv
    obtain ⟨x',r2,rfl,hx,ha2⟩ := ha1.cons_inv
    obtain rfl := ha2.nil_inv
    have hts2 : ∀ (a : Array Value),Builtin.append_ ts ty a = Builtin.append_ #[sT,xT] ty a := fun a => by
      unfold Builtin.append_
      have e0 : ts[0]? = some sT := by rw [← Array.getElem?_toList,hts]; rfl
      have e1 : ts[1]? = some xT := by rw [← Array.getElem?_toList,hts]; rfl
      simp only [e0,e1]
      rfl
    rw [hts2]
    rcases hsT : T.und sT with _ | d0
    · simp [hsT,fail] at h
    rcases hxT : T.und xT with _ | dx
    · cases d0 <;> simp [hsT,hxT,fail] at h
    cases d0 <;> simp only [hsT,hxT,Option.map_some] at h <;> try (cases h; done)
    rename_i elem
    rcases hdx : appendable dx with _ | _
    · simp [hdx,fail] at h
    cases b <;> simp only [hdx] at h <;> try (cases h; done)
    · rename_i base sLen sCap
      unfold appendOf at h
      obtain ⟨size,_,h1,g1⟩ := bnd_some h
      clear h
      obtain ⟨hsz,rfl⟩ := lift_some h1
      clear h1
      obtain ⟨bytes,_,h1,g2⟩ := bnd_some g1
      clear g1
      obtain ⟨hby,rfl⟩ := lift_some h1
      clear h1
      obtain ⟨z,_,h1,g3⟩ := bnd_some g2
      clear g2
      obtain ⟨hz,rfl⟩ := lift_some h1
      clear h1
      obtain ⟨n,_,h1,g4⟩ := bnd_some g3
      clear g3
      obtain ⟨hn,rfl⟩ := lift_some h1
      clear h1
      obtain ⟨new,s1,hnew,h⟩ := bnd_some g4
      clear g4
      obtain ⟨rfl,new',hn1,hn2⟩ := sim_firstCells hR hx hnew P
      split at h
      · -- to the end of its row
        split at h
        · split at h
          · rename_i N o hcap
            rw [hcap] at hb
            exact sim_appendEnd hT hBz hR hf hsT hxT hdx hsz hby hz hn hx hb hnew h
          · cases h
        · cases h
      · rename_i hcap
        have hb' : ∃ base',b' = .slice base' sLen sCap ∧ (base = none → base' = none) := by
          cases hb with
          | sliceNil _ _ _ => exact ⟨none,rfl,fun _ => rfl⟩
          | sliceEx _ _ _ _ => exact ⟨_,rfl,fun h => by cases h⟩
          | sliceEnd => omega
          | sliceGone => omega
        obtain ⟨base',rfl,hbn⟩ := hb'
        split at h
        · rename_i hroom
          split at h
          · rename_i N o
            obtain ⟨_,s2,h1,h2⟩ := bnd_some h
            obtain ⟨rfl,rfl⟩ := ret_some h2
            obtain ⟨hnx,hst⟩ := sim_storeCells (P := P) hT hR hn1 h1
            cases hb with
            | @sliceEx _ _ L _ _ hL _ =>
              rcases hst with ⟨he,rfl⟩ | ⟨_,L',w2,hL',hrun,hR',hK⟩
              · have he' : new' = [] := by have := hn1.1; rw [he] at this; exact List.eq_nil_of_length_eq_zero this.symm
                subst he'
                exact .same hR (run_append_fits' hT hR hsT hxT hdx hsz hn hx hnew hroom hn2 (fun a _ => rfl) (fun _ => rfl)) (.sliceEx _ _ hL (by omega))
              · rw [hL] at hL'; cases hL'
                refine ⟨φ,w2,_,run_append_fits' hT hR hsT hxT hdx hsz hn hx hnew hroom hn2 (fun a ha => by cases ha; rw [add_addr,Nat.add_assoc]; exact hrun) (fun e => by cases e),by omega,.refl _ _ _,hR',.sliceEx _ _ hL (by omega),hK⟩
            | sliceEnd => omega
            | sliceGone => omega
          · obtain ⟨rfl,rfl⟩ := ret_some h
            obtain rfl := hbn rfl
            exact .same hR (run_append_fits' hT hR hsT hxT hdx hsz hn hx hnew hroom hn2 (fun a ha => by cases ha) (fun _ => rfl)) (.sliceNil _ _ (by omega))
          · cases h
        · rename_i hroom
          unfold appendNew at h
          obtain ⟨old,s2,ho,g⟩ := bnd_some h
          clear h
          obtain ⟨rfl,_⟩ := sim_firstCells hR hb ho P
          split at g
          · rename_i hc
            obtain ⟨c1,c2,c3,c4,c5,c6,c7⟩ := hc
            obtain ⟨N',s5,h9,h10⟩ := bnd_some g
            obtain ⟨rfl,rfl⟩ := newB_some h9
            obtain ⟨rfl,rfl⟩ := ret_some h10
            have hfr : φ s2.next = none := hf s2.next (Nat.le_refl _) (by simp)
            obtain ⟨cc,cap2,q1,q2,q3,q4⟩ := run_append_new (ty := ty) hT hR hsT hxT hdx hsz hby hz hn hx ho hb hnew (by omega) c3 c4 c1 c5 c6 c7
            have hRn := (hR.heap (w' := w.drew) rfl).newRow hfr (old ++ new) cc elem 0 (0,0) (by simp only [List.length_append,c5,c6]; rw [q1,← Nat.add_mul]; exact Nat.mul_le_mul_right _ q2) q3 (fun _ => .inl rfl)
            refine ⟨_,_,_,q4,by simp,.add ⟨w.heap.size,0,cc.size⟩ hfr hR.newOk,?_,?_,.grow⟩
            · simp only
              rw [get_upd]; exact hRn
            · have := VRel.sliceEnd (φ := φ.add s2.next ⟨w.heap.size,0,cc.size⟩) (N := s2.next) (o := 0) (L := ⟨w.heap.size,0,cc.size⟩) (sLen + n) size cap2 (Phi.add_same _ _ _) (by simp only; omega) q2 c2
              exact this
          · cases g
  · cases h
end
end Go.Ev

/-
  EV, PART I: what is made; copy, clear, len, min and max; conversions; strings' walks; a Builder's string.
-/
namespace Go.Ev
open Go Go.RowKit
theorem rep_range (z : Array Value) : ∀ n,(List.range (n * z.size)).map (fun i => z[i % z.size]!) = rep n z.toList
  | 0 => by simp [rep]
  | n + 1 => by
    rw [Nat.add_mul,Nat.one_mul,Nat.add_comm,List.range_add,List.map_append,List.map_map,rep,← rep_range z n]
    congr 1
    · apply List.ext_getElem?
      intro i
      by_cases hi : i < z.size
      · rw [List.getElem?_map,List.getElem?_range hi,Array.getElem?_toList]
        simp [Nat.mod_eq_of_lt hi,hi]
      · rw [List.getElem?_eq_none (by simp; omega),List.getElem?_eq_none (by simp; omega)]
    · apply List.map_congr_left
      intro i _
      simp
theorem made_rep (z : Array Value) (n k : Nat) (hk : z.size = k) : ((Array.range (n * k)).map (fun i => z[i % z.size]!)).toList = rep n z.toList := by
  subst hk
  rw [Array.toList_map,Array.toList_range]
  exact rep_range z n
section
variable {T : Tab} {P : Program} (hT : T.Ok P)
include hT
theorem zeros_some {elem : TypeId} {n : Nat} {l : List Value} (h : zeros T elem n = some l) : ∃ z k,T.zero elem = some z ∧ T.size elem = some k ∧ z.cells.size = k ∧ l = rep n z.cells.toList ∧ (∀ v ∈ l,Flat v) := by
  unfold zeros at h
  cases hz : T.zero elem with
  | none => simp [hz] at h
  | some z =>
    cases hk : T.size elem with
    | none => simp [hz,hk] at h
    | some k =>
      simp only [hz,hk] at h
      split at h
      · rename_i hl
        cases h
        have hf := (hT.zero _ _ hz).2
        refine ⟨z,k,rfl,rfl,by rw [← Array.length_toList]; exact hl,rfl,?_⟩
        have hcell : ∀ v ∈ cellsOf z,Flat v := by
          intro v hv
          cases hf <;> simp only [cellsOf,Value.cells,List.mem_singleton] at hv <;> first
            | (subst hv; constructor; done)
            | (subst hv; constructor; assumption)
            | (rename_i a ha; obtain ⟨i,hi,rfl⟩ := List.getElem_of_mem hv; exact ha i _ (List.getElem?_eq_getElem hi))
        have : ∀ n,∀ v ∈ rep n (cellsOf z),Flat v := by
          intro n
          induction n with
          | zero => intro v hv; simp [rep] at hv
          | succ n ih => intro v hv; simp only [rep,List.mem_append] at hv; rcases hv with hv | hv; exact hcell v hv; exact ih v hv
        exact this n
      · cases h
theorem sim_buildSlice {φ : Phi} {B : Base} {s s' : St} {w : World} (hR : Rel φ B s.t.get w) (hf : Fresh φ s.next s'.next) {t : TypeId} {n : Nat} {parts parts' : List (Nat × Value)} {v : Value}
    (h : buildSlice T t n parts s = some (v,s')) (hl : parts.length = parts'.length)
    (hp : ∀ (i : Nat) (p p' : Nat × Value),parts[i]? = some p → parts'[i]? = some p' → p.1 = p'.1 ∧ VRel φ p.2 p'.2) : Came φ B s w v s' ((Instr.buildSlice t n ⟨parts'⟩).run P w) := by
  have hEND : END = 4611686018427387904 := rfl
  unfold buildSlice at h
  cases hd : T.und t with
  | none => simp [hd,fail] at h
  | some d =>
    cases d <;> simp only [hd] at h <;> try (cases h; done)
    rename_i elem
    cases hn : T.size elem with
    | none => simp [hn,fail] at h
    | some k =>
      cases hz : zeros T elem n with
      | none => simp [hn,hz,fail] at h
      | some z =>
        simp only [hn,hz] at h
        obtain ⟨zv,k',z1,z2,z3,rfl,z5⟩ := zeros_some hT hz
        rw [hn] at z2; cases z2
        split at h
        · rename_i hc
          obtain ⟨c1,c2,c3⟩ := hc
          rcases hfill : fillL (fun i => some (i * k,k)) (rep n zv.cells.toList) parts with _ | cs
          · simp [hfill,fail] at h
          · simp only [hfill] at h
            obtain ⟨N,s1,h1,h2⟩ := bnd_some h
            obtain ⟨rfl,rfl⟩ := newB_some h1
            obtain ⟨rfl,rfl⟩ := ret_some h2
            have hfr : φ s.next = none := hf s.next (Nat.le_refl _) (by simp)
            obtain ⟨cs',hf1,hf2⟩ := fillL_rel _ parts parts' _ _ cs hfill (Flat.lrel z5) hl hp
            obtain ⟨hg,hR'⟩ := sim_newRow (T := T) (P := P) hT hR hfr (e := elem) (c := ⟨cs'⟩) hf2
            have hne : n * k ≠ 0 := by intro e; rcases Nat.mul_eq_zero.1 e with e | e <;> omega
            refine ⟨_,w.alloc (.cells ⟨cs'⟩ elem),.slice (some ⟨w.heap.size,0,none⟩) n n,?_,by simp,hg,hR',?_,.alloc _ _ _ _⟩
            · have hr : ((Array.range (n * k)).map (fun i => zv.cells[i % zv.cells.size]!)) = ⟨rep n zv.cells.toList⟩ := by
                apply Array.ext'; exact made_rep _ _ _ z3
              have h24 : ¬ (n * k > 2 ^ 24) := by have : (2 : Nat) ^ 24 = 16777216 := rfl; omega
              simp only [Instr.buildSlice,Sem.run_bind,run_und hT hd,run_size hT hn,Result.andThen_ok,h24,if_false,hne,run_zero hT z1,Sem.run_pure,hr]
              rw [hf1]
              simp only [Go.newRow,Sem.run_bind,run_newObj_alloc,Result.andThen_ok,Sem.run_pure]
            · refine VRel.sliceEx (L := ⟨w.heap.size,0,_⟩) n n (Phi.add_same _ _ _) ?_
              have : n ≤ n * k := Nat.le_mul_of_pos_right n c1
              omega
        · split at h
          · rename_i hc
            obtain ⟨rfl,rfl⟩ := hc
            obtain ⟨N,s1,h1,h2⟩ := bnd_some h
            obtain ⟨rfl,rfl⟩ := newB_some h1
            obtain ⟨rfl,rfl⟩ := ret_some h2
            have hfr : φ s.next = none := hf s.next (Nat.le_refl _) (by simp)
            obtain rfl : parts' = [] := List.eq_nil_of_length_eq_zero (by simpa using hl.symm)
            obtain ⟨hg,hR'⟩ := sim_newRow (T := T) (P := P) hT hR hfr (e := elem) (vs := []) (c := #[]) .nil
            refine ⟨_,w.alloc (.cells #[] elem),.slice (some ⟨w.heap.size,0,none⟩) 0 0,?_,by simp,hg,hR',?_,.alloc _ _ _ _⟩
            · simp [Instr.buildSlice,run_und hT hd,run_size hT hn,Instr.fill,Go.newRow,Array.range_zero']
            · exact VRel.sliceEx (L := ⟨w.heap.size,0,_⟩) 0 0 (Phi.add_same _ _ _) (by omega)
          · cases h
theorem sim_makeSlice {φ : Phi} {B : Base} {s s' : St} {w : World} (hR : Rel φ B s.t.get w) (hf : Fresh φ s.next s'.next) {t : TypeId} {l l' c c' : Value} {v : Value} (hl : VRel φ l l') (hcc : VRel φ c c')
    (h : makeSlice T t l c s = some (v,s')) : Came φ B s w v s' ((Instr.makeSlice t l' c').run P w) := by
  have hEND : END = 4611686018427387904 := rfl
  unfold makeSlice at h
  cases hd : T.und t with
  | none => simp [hd,fail] at h
  | some d =>
    cases d <;> simp only [hd] at h <;> try (cases h; done)
    rename_i elem
    cases hl <;> simp only [asInt] at h <;> try (cases h; done)
    cases hcc <;> simp only at h <;> try (cases h; done)
    rename_i kl n kc m
    cases hb : T.bytes elem with
    | none => simp [hb,fail] at h
    | some b =>
      cases hz : zeros T elem m.toNat with
      | none => simp [hb,hz,fail] at h
      | some z =>
        simp only [hb,hz] at h
        split at h
        · rename_i hc
          obtain ⟨c1,c2,c3,c4⟩ := hc
          obtain ⟨N,s1,h1,h2⟩ := bnd_some h
          obtain ⟨rfl,rfl⟩ := newB_some h1
          obtain ⟨rfl,rfl⟩ := ret_some h2
          have hfr : φ s.next = none := hf s.next (Nat.le_refl _) (by simp)
          obtain ⟨zv,k,z1,z2,z3,rfl,z5⟩ := zeros_some hT hz
          obtain ⟨⟨i,hi,hiz⟩,_⟩ := hT.zero _ _ z1
          have hib : i.bytes = b := by obtain ⟨j,hj,e⟩ := hT.bytes _ _ hb; rw [hi] at hj; cases hj; exact e
          have his : i.size = k := by obtain ⟨j,hj,e⟩ := hT.size _ _ z2; rw [hi] at hj; cases hj; exact e
          have hrun := run_make (P := P) w t elem i zv (hT.und _ _ hd) hi hiz kl kc n m c1 c2 (by rw [hib]; omega) (by omega)
          have hr : madeCells zv.cells (m.toNat * i.size) = ⟨rep m.toNat zv.cells.toList⟩ := by
            apply Array.ext'; rw [his]; exact made_rep _ _ _ z3
          rw [hr] at hrun
          obtain ⟨hg,hR'⟩ := sim_newRow (T := T) (P := P) hT hR hfr (e := elem) (c := ⟨rep m.toNat zv.cells.toList⟩) (Flat.lrel z5)
          exact ⟨_,_,_,hrun,by simp,hg,hR',VRel.sliceEx (L := ⟨w.heap.size,0,_⟩) _ _ (Phi.add_same _ _ _) (by omega),.alloc _ _ _ _⟩
        · cases h
omit hT in
theorem minmaxFrom_rel {φ : Phi} (mx : Bool) (k : IntKind) : ∀ (l l' : List Value) (x : Int) (v : Value) (w : World),minmaxFrom mx k x l = some v → LRel φ l l' →
    (l'.foldlM (if mx then Builtin.max2 else Builtin.min2) (.int k x)).run P w = .ok v w ∧ ∃ n,v = .int k n
  | [],l',x,v,w,h,hl => by
    obtain rfl := hl.nil_inv
    simp [minmaxFrom] at h
    subst h
    exact ⟨by simp,_,rfl⟩
  | a :: r,l',x,v,w,h,hl => by
    obtain ⟨a',r',rfl,ha,hr⟩ := hl.cons_inv
    cases a <;> simp only [minmaxFrom] at h <;> try (cases h; done)
    cases ha
    rename_i k2 y
    have ih := minmaxFrom_rel mx k r r' _ v w h hr
    refine ⟨?_,ih.2⟩
    rw [List.foldlM_cons]
    cases mx
    · simp only [Bool.false_eq_true,if_false] at ih ⊢
      simp only [Builtin.min2,Sem.run_bind,Sem.run_pure,Result.andThen_ok]
      exact ih.1
    · simp only [if_true] at ih ⊢
      simp only [Builtin.max2,Sem.run_bind,Sem.run_pure,Result.andThen_ok]
      exact ih.1
omit hT in
theorem sim_minmax {φ : Phi} (mx : Bool) {l l' : List Value} {v : Value} (w : World) (h : minmax mx l = some v) (hl : LRel φ l l') (ts : Array TypeId) (ty : TypeId) :
    ((if mx then Builtin.max_ ts ty ⟨l'⟩ else Builtin.min_ ts ty ⟨l'⟩).run P w = .ok v w) ∧ VRel φ v v := by
  cases l with
  | nil => simp [minmax] at h
  | cons a r =>
    obtain ⟨a',r',rfl,ha,hr⟩ := hl.cons_inv
    cases a <;> simp only [minmax] at h <;> try (cases h; done)
    cases ha
    obtain ⟨h1,n,rfl⟩ := minmaxFrom_rel (P := P) mx _ r r' _ v w h hr
    refine ⟨?_,.int _ _⟩
    cases mx
    · simpa [Builtin.min_] using h1
    · simpa [Builtin.max_] using h1
theorem sim_len {φ : Phi} {B : Base} {s s' : St} {w : World} (hR : Rel φ B s.t.get w) {ts : Array TypeId} {ty : TypeId} {args args' : List Value} (ha : LRel φ args args') {v : Value}
    (h : len T ts.toList args s = some (v,s')) : s' = s ∧ (Builtin.len_ ts ty ⟨args'⟩).run P w = .ok v w ∧ Flat v := by
  generalize hts : ts.toList = tl at h
  rcases tl with _ | ⟨t,tr⟩
  · cases h
  rcases args with _ | ⟨x,r⟩
  · cases h
  obtain ⟨x',r',rfl,hx,_⟩ := ha.cons_inv
  have e0 : ts[0]? = some t := by rw [← Array.getElem?_toList,hts]; rfl
  simp only [len] at h
  cases hd : T.und t with
  | none => simp [hd,fail] at h
  | some d =>
    have hrun : ∀ (X : Sem Value),(Builtin.len_ ts ty ⟨x' :: r'⟩) = X → (Builtin.len_ ts ty ⟨x' :: r'⟩) = X := fun _ h => h
    cases d <;> simp only [hd] at h <;> try (cases h; done)
    · cases hx <;> simp only at h <;> try (cases h; done)
      obtain ⟨rfl,rfl⟩ := ret_some h
      rename_i str
      refine ⟨rfl,?_,.int _ _⟩
      rw [show str.data.toList.length = str.size from Array.length_toList]
      simp [Builtin.len_,e0,run_und hT hd]
    · cases hx <;> simp only at h <;> try (cases h; done)
      all_goals
        obtain ⟨rfl,rfl⟩ := ret_some h
        exact ⟨rfl,by simp [Builtin.len_,e0,run_und hT hd],.int _ _⟩
    · obtain ⟨rfl,rfl⟩ := ret_some h
      exact ⟨rfl,by cases hx <;> simp [Builtin.len_,e0,run_und hT hd],.int _ _⟩
    · cases hx <;> simp only at h <;> try (cases h; done)
      obtain ⟨rfl,rfl⟩ := ret_some h
      exact ⟨rfl,by simp [Builtin.len_,e0,run_und hT hd],.int _ _⟩
end
end Go.Ev
