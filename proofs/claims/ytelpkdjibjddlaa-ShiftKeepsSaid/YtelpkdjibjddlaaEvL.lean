/-
  EV, PART L: each operation that calls no function of the program.
-/
import Derived.Test.YtelpkdjibjddlaaEvK
set_option linter.unusedSimpArgs false
set_option linter.unusedVariables false
namespace Go.Ev
open Go Go.RowKit

/-- What an operation hands on. -/
def NRel (φ : Phi) (v : Value) (nx : Next) : Prop := (∃ v', nx = .value v' ∧ VRel φ v v') ∨ (nx = .skip ∧ v = undef)

/-- What an operation comes to. -/
def OpCame (φ : Phi) (B : Base) (s : St) (w : World) (v : Value) (s' : St) (r : Result Next) : Prop :=
  ∃ φ' w' nx, r = .ok nx w' ∧ s.next ≤ s'.next ∧ Grows B φ φ' s.next s'.next ∧ Rel φ' B s'.t.get w' ∧ NRel φ' v nx ∧ Keeps φ s.t.get w w'

theorem Came.op {φ : Phi} {B : Base} {s s' : St} {w : World} {v : Value} {P : Program} {m : Sem Value} (h : Came φ B s w v s' (m.run P w)) : OpCame φ B s w v s' ((do pure (.value (← m)) : Sem Next).run P w) := by
  obtain ⟨φ', w', v', h1, h2, h3, h4, h5, h6⟩ := h
  exact ⟨φ', w', .value v', by simp [h1], h2, h3, h4, .inl ⟨v', rfl, h5⟩, h6⟩

def opOk (globs : Nat) (o : Op) : Bool := o.operands.toList.all (operandOk globs)

theorem QRel.map {φ : Phi} {ρ ρ' : Operand → Value} : ∀ (x : Option Operand), (∀ y, x = Option.some y → VRel φ (ρ y) (ρ' y)) → QRel φ (x.map ρ) (x.map ρ')
  | Option.none, _ => .none
  | Option.some y, h => .some (h y rfl)

theorem LRel.map {φ : Phi} {ρ ρ' : Operand → Value} : ∀ (l : List Operand), (∀ y ∈ l, VRel φ (ρ y) (ρ' y)) → LRel φ (l.map ρ) (l.map ρ')
  | [], _ => .nil
  | y :: l, h => .cons (h y (by simp)) (LRel.map l fun z hz => h z (by simp [hz]))

section
variable {T : Tab} {P : Program} (hT : T.Ok P)
include hT

theorem sim_range {φ : Phi} {B : Base} {s s' : St} {w : World} (hR : Rel φ B s.t.get w) (hf : Fresh φ s.next s'.next) {t : TypeId} {x x' v : Value} (hx : VRel φ x x')
    (h : rangeOp T t x s = some (v, s')) : Came φ B s w v s' ((Instr.range t x').run P w) := by
  unfold rangeOp at h
  rcases hd : T.und t with _ | d
  · simp [hd, fail] at h
  cases d <;> (try simp only [hd] at h) <;> try (cases h; done)
  cases hx <;> (try simp only at h) <;> try (cases h; done)
  rename_i str
  obtain ⟨N, s1, h1, h2⟩ := bnd_some h
  obtain ⟨rfl, rfl⟩ := newB_some h1
  obtain ⟨rfl, rfl⟩ := ret_some h2
  have hfr : φ s.next = none := hf s.next (Nat.le_refl _) (by simp)
  have hRn := hR.new hfr (.obj (.stringIter str 0)) (.stringIter str 0) ⟨w.heap.size, 0, 0⟩ rfl ⟨_, heap_alloc_new _ _, ⟨rfl, rfl⟩, hR.newOk, rfl⟩
  refine ⟨_, w.alloc (.stringIter str 0), .pointer (some ⟨w.heap.size, 0, none⟩), ?_, by simp, .add _ hfr hR.newOk, by simp only; rw [get_upd]; exact hRn, ?_, .alloc _ _ _ _⟩
  · simp [Instr.range, run_und hT hd]
  · exact VRel.ptr (L := ⟨w.heap.size, 0, 0⟩) (Phi.add_same _ _ _)

omit hT in
theorem sim_next {φ : Phi} {B : Base} {s s' : St} {w : World} (hR : Rel φ B s.t.get w) {x x' v : Value} {isS : Bool} {ty : TypeId} (hx : VRel φ x x')
    (h : nextOp x isS s = some (v, s')) : Came φ B s w v s' ((Instr.next x' isS ty).run P w) := by
  unfold nextOp at h
  split at h
  · rename_i N
    simp only at h
    split at h
    · rename_i str pos hN
      cases hx with
      | @ptr _ _ L hL =>
        obtain ⟨L2, hL2, o', k1, k2, k3, k4⟩ := hR.blk N _ hN
        rw [hL] at hL2; cases hL2
        cases o' <;> simp only [ORel] at k2 <;> try (exact k2.elim)
        obtain ⟨rfl, rfl⟩ := k2
        have hget : (getObj L.blk).run P w = .ok (.stringIter str pos) w := by simp [getObj, Sem.run, k1]
        rw [k4]
        split at h
        · rename_i hlt
          generalize hdec : Utf8.decode str pos = cw at h
          obtain ⟨c, width⟩ := cw
          simp only at h
          obtain ⟨_, s1, h1, h2⟩ := bnd_some h
          obtain ⟨_, rfl⟩ := setB_some h1
          obtain ⟨rfl, rfl⟩ := ret_some h2
          have hset : (setObj L.blk (.stringIter str (pos + width))).run P w = .ok () { w with heap := w.heap.setIfInBounds L.blk (.stringIter str (pos + width)) } := by
            simp [setObj, Sem.run, k1]
          have hb : L.blk < w.heap.size := hR.inw _ _ hL
          refine ⟨φ, { w with heap := w.heap.setIfInBounds L.blk (.stringIter str (pos + width)) }, .tuple #[.bool true, goInt pos, .int .i32 c], ?_, by simp, .refl _ _ _, ?_, ?_, ?_⟩
          · simp [Instr.next, hget, hlt, hdec, hset]
          · simp only
            rw [get_upd]
            refine hR.set hN hL trivial _ (by simp) (fun k hk => by simp [Array.getElem?_setIfInBounds, Ne.symm hk]) ⟨.stringIter str (pos + width), by simp [Array.getElem?_setIfInBounds, hb], ⟨rfl, rfl⟩, k3, k4⟩
          · exact (Flat.tuple _ (fun i v hv => by
              rcases i with _ | _ | _ | i <;> simp at hv <;> subst hv <;> constructor)).vrel
          · exact Keeps.set hN hL trivial rfl rfl rfl (by simp) (fun k hk => by simp [Array.getElem?_setIfInBounds, Ne.symm hk])
        · rename_i hlt
          simp at h
          obtain ⟨rfl, rfl⟩ := h
          refine .same hR (v' := .tuple #[.bool false]) ?_ (Flat.tuple _ (fun i v hv => by rcases i with _ | i <;> simp at hv; subst hv; constructor)).vrel
          simp [Instr.next, hget, hlt]
    · cases h
  · cases h

theorem sim_builtin {φ : Phi} {B : Base} (hBz : B.sz = P.cellsOf) {s s' : St} {w : World} (hR : Rel φ B s.t.get w) (hf : Fresh φ s.next s'.next) {b : Builtin} {ts : Array TypeId} {ty : TypeId} {consts : Array Bool} {args args' : List Value} (ha : LRel φ args args') {v : Value}
    (h : builtin T b ts.toList args s = some (v, s')) : OpCame φ B s w v s' ((Go.builtin b ts ty consts ⟨args'⟩).run P w) := by
  cases b <;> simp only [builtin] at h <;> try (cases h; done)
  · exact (sim_append hT hBz hR hf ha h).op
  · exact (sim_clear hT hR ha h).op
  · exact (sim_copy hT hR ha h).op
  · obtain ⟨rfl, h2, h3⟩ := sim_len hT (ty := ty) hR ha h
    exact (Came.same hR h2 h3.vrel).op
  · obtain ⟨h1, rfl⟩ := lift_some h
    obtain ⟨h2, h3⟩ := sim_minmax (P := P) true w h1 ha ts ty
    exact (Came.same hR h2 h3).op
  · obtain ⟨h1, rfl⟩ := lift_some h
    obtain ⟨h2, h3⟩ := sim_minmax (P := P) false w h1 ha ts ty
    exact (Came.same hR h2 h3).op
  · -- unsafe.SliceData
    obtain ⟨h1, rfl⟩ := lift_some h
    unfold sliceData at h1
    split at h1
    · cases h1
      obtain ⟨x', r', rfl, hx, hr⟩ := ha.cons_inv
      obtain rfl := hr.nil_inv
      cases hx
      refine Came.op (m := Builtin.unsafeSliceData_ ts ty _) (.same hR ?_ .ptrNil)
      rfl
    · rename_i N o l c
      obtain ⟨x', r', rfl, hx, hr⟩ := ha.cons_inv
      obtain rfl := hr.nil_inv
      split at h1
      · rename_i hc
        cases h1
        have fin : ∀ (a : Addr) (c' : Nat), c' ≠ 0 → (Builtin.unsafeSliceData_ ts ty #[.slice (some a) l c']).run P w = .ok (.pointer (some a)) w := fun a c' h0 => by
          change Sem.run P (if c' ≠ 0 then _ else _) w = _
          rw [if_pos h0]; rfl
        cases hx with
        | sliceEx _ _ hL _ => exact Came.op (m := Builtin.unsafeSliceData_ ts ty _) (.same hR (fin _ _ hc.2) (.ptr hL))
        | sliceEnd _ _ _ hL _ hl _ => exact Came.op (m := Builtin.unsafeSliceData_ ts ty _) (.same hR (fin _ _ (by omega)) (.ptr hL))
        | sliceGone => omega
      · cases h1
    · cases h1
  · exact (sim_unsafeString hT hBz hR ha h).op

theorem op_map {m : Sem Value} {r : Value} {w w' : World} (h : m.run P w = .ok r w') : ((do pure (.value (← m)) : Sem Next)).run P w = .ok (.value r) w' := by
  have _ := hT
  simp [h]

set_option maxHeartbeats 1000000 in
theorem sim_plain {φ : Phi} {B : Base} (hBz : B.sz = P.cellsOf) {s s' : St} {w : World} (hR : Rel φ B s.t.get w) (hf : Fresh φ s.next s'.next) {ρ ρ' : Operand → Value} {o : Oper} (hρ : ∀ x ∈ o.op.operands.toList, VRel φ (ρ x) (ρ' x)) {v : Value} (h : evPlain T ρ o.op s = some (v, s')) : OpCame φ B s w v s' ((execOp ρ' o).run P w) := by
  obtain ⟨dst, op, ty, pos, after, guard⟩ := o
  simp only at hρ h
  have pure1 : ∀ {v v' : Value} {m : Sem Value}, s' = s → m.run P w = .ok v' w → VRel φ v v' → OpCame φ B s w v s' ((do pure (.value (← m)) : Sem Next).run P w) := fun hs hm hv => by
    subst hs; exact (Came.same hR hm hv).op
  have ok1 : ∀ {x : Operand}, x ∈ op.operands.toList → VRel φ (ρ x) (ρ' x) := fun {x} hx => hρ x hx
  cases op with
  | move x => obtain ⟨rfl, rfl⟩ := ret_some h; exact (Came.same hR (r := .ok (ρ' x) w) rfl (ok1 (by simp [Op.operands]))).op (m := pure (ρ' x))
  | assign x => obtain ⟨rfl, rfl⟩ := ret_some h; exact (Came.same hR (r := .ok (ρ' x) w) rfl (ok1 (by simp [Op.operands]))).op (m := pure (ρ' x))
  | pick c a b =>
    obtain ⟨h1, rfl⟩ := lift_some h
    have hc : VRel φ (ρ c) (ρ' c) := ok1 (by simp [Op.operands])
    have ha : VRel φ (ρ a) (ρ' a) := ok1 (by simp [Op.operands])
    have hb : VRel φ (ρ b) (ρ' b) := ok1 (by simp [Op.operands])
    generalize ρ c = vc at h1 hc
    cases vc <;> simp only [pickOf] at h1 <;> try (cases h1; done)
    rename_i t
    cases h1
    generalize hvc : ρ' c = vc' at hc
    cases hc
    refine ⟨φ, w, .value (if t then ρ' a else ρ' b), ?_, Nat.le_refl _, .refl _ _ _, hR, .inl ⟨_, rfl, ?_⟩, .refl _ _ _⟩
    · simp [execOp, hvc, asBool]
    · cases t <;> assumption
  | alloc elem =>
    obtain ⟨z, s1, h1, h2⟩ := bnd_some h
    obtain ⟨hz, rfl⟩ := lift_some h1
    have := sim_newVar hT hR hf (hT.zero _ _ hz).2.vrel h2
    have e : (Instr.alloc elem true (.tuple #[])).run P w = (do pure (.pointer (some (← newVar elem z))) : Sem Value).run P w := by
      simp [Instr.alloc, run_zero hT hz]
    rw [← e] at this
    exact this.op
  | box elem x =>
    exact (sim_newVar hT hR hf (ok1 (by simp [Op.operands])) h).op (m := Instr.box elem (ρ' x))
  | build t parts =>
    obtain ⟨h1, rfl⟩ := lift_some h
    obtain ⟨v', hr, hv⟩ := sim_build (parts' := parts.toList.map fun p => (p.1, ρ' p.2)) hT h1 (by simp) (fun i p p' hp hp' => by
      rw [List.getElem?_map] at hp hp'
      obtain ⟨q, hq, rfl⟩ := Option.map_eq_some_iff.1 hp
      rw [hq] at hp'; cases hp'
      exact ⟨rfl, ok1 (by simp [Op.operands]; exact ⟨_, by simpa using List.mem_of_getElem? hq⟩)⟩) w
    have e : (parts.map fun (x : Nat × Operand) => (x.1, ρ' x.2)) = ⟨parts.toList.map fun p => (p.1, ρ' p.2)⟩ := by apply Array.ext'; simp
    refine pure1 rfl (m := Instr.build t (parts.map fun (x : Nat × Operand) => (x.1, ρ' x.2))) ?_ hv
    rw [e]; exact hr
  | buildSlice t n parts =>
    have := sim_buildSlice (parts' := parts.toList.map fun p => (p.1, ρ' p.2)) hT hR hf h (by simp) (fun i p p' hp hp' => by
      rw [List.getElem?_map] at hp hp'
      obtain ⟨q, hq, rfl⟩ := Option.map_eq_some_iff.1 hp
      rw [hq] at hp'; cases hp'
      exact ⟨rfl, ok1 (by simp [Op.operands]; exact ⟨_, by simpa using List.mem_of_getElem? hq⟩)⟩)
    have e : (parts.map fun (x : Nat × Operand) => (x.1, ρ' x.2)) = ⟨parts.toList.map fun p => (p.1, ρ' p.2)⟩ := by apply Array.ext'; simp
    rw [← e] at this
    exact this.op
  | load t a =>
    obtain ⟨rfl, v', hr, hv⟩ := sim_load hT hR (ok1 (x := a) (by simp [Op.operands])) h
    exact pure1 rfl hr hv
  | store t a x =>
    obtain ⟨_, s1, h1, h2⟩ := bnd_some h
    obtain ⟨rfl, rfl⟩ := ret_some h2
    obtain ⟨hn, w', hr, hR', hK⟩ := sim_store hT hR (ok1 (x := a) (by simp [Op.operands])) (ok1 (x := x) (by simp [Op.operands])) h1
    exact ⟨φ, w', .skip, by simp [execOp, hr], by omega, .refl _ _ _, hR', .inr ⟨rfl, rfl⟩, hK⟩
  | nilCheck x =>
    obtain ⟨h1, rfl⟩ := lift_some h
    have hx : VRel φ (ρ x) (ρ' x) := ok1 (by simp [Op.operands])
    refine ⟨φ, w, .value (ρ' x), ?_, Nat.le_refl _, .refl _ _ _, hR, .inl ⟨_, rfl, ?_⟩, .refl _ _ _⟩
    · generalize ρ x = vx at h1 hx
      simp only [execOp]
      generalize ρ' x = vx' at hx
      cases hx <;> simp only [nilChecked] at h1 <;> first
        | (cases h1; done)
        | rfl
    · generalize ρ x = vx at h1 hx
      generalize ρ' x = vx' at hx ⊢
      have hx0 := hx
      cases hx <;> simp only [nilChecked] at h1 <;> first
        | (cases h1; done)
        | (cases h1; exact hx0)
  | binOp op t x y yt =>
    obtain ⟨h1, rfl⟩ := lift_some h
    obtain ⟨v', hr, hv⟩ := sim_binop hT op t x y h1 (ok1 (x := x) (by simp [Op.operands])) (ok1 (x := y) (by simp [Op.operands])) w
    exact pure1 rfl hr hv
  | unOp op t x =>
    obtain ⟨h1, rfl⟩ := lift_some h
    obtain ⟨v', hr, hv⟩ := sim_unop (P := P) hT op h1 (ok1 (x := x) (by simp [Op.operands])) w
    exact pure1 rfl hr hv
  | convert src dst x => exact (sim_convert hT hBz hR hf (ok1 (x := x) (by simp [Op.operands])) h).op
  | makeInterface t x =>
    obtain ⟨h1, rfl⟩ := lift_some h
    unfold makeIface at h1
    have hx : VRel φ (ρ x) (ρ' x) := ok1 (by simp [Op.operands])
    rcases hd : T.und t with _ | d
    · simp [hd] at h1
    · refine pure1 rfl (v' := .iface t (ρ' x)) (m := Instr.makeInterface t (ρ' x)) ?_ ?_
      · cases d <;> simp only [hd] at h1 <;> first
          | (cases h1; done)
          | simp [Instr.makeInterface, run_und hT hd]
      · cases d <;> simp only [hd] at h1 <;> first
          | (cases h1; done)
          | (cases h1; exact .iface t hx)
  | makeFunc fn first captured =>
    cases fn <;> (try simp only at h) <;> try (cases h; done)
    rename_i g
    obtain ⟨rfl, rfl⟩ := ret_some h
    have h1 : LRel φ (first.toList.map ρ) (first.toList.map ρ') := LRel.map _ fun y hy => hρ y (by simp [Op.operands]; exact .inl (by simpa using hy))
    have h2 : LRel φ (captured.toList.map ρ) (captured.toList.map ρ') := LRel.map _ fun y hy => hρ y (by simp [Op.operands]; exact .inr (by simpa using hy))
    refine pure1 rfl (m := Instr.makeFunc (.func g) (first.map ρ') (captured.map ρ')) (v' := .func (.func g) (first.map ρ') (captured.map ρ')) rfl ?_
    have e1 : (first.map ρ').toList = first.toList.map ρ' := by simp
    have e2 : (captured.map ρ').toList = captured.toList.map ρ' := by simp
    exact .func g _ _ _ _ (by rw [e1]; exact h1.1) (by rw [e1]; exact h1.2) (by rw [e2]; exact h2.1) (by rw [e2]; exact h2.2)
  | makeSlice t l c => exact (sim_makeSlice hT hR hf (ok1 (x := l) (by simp [Op.operands])) (ok1 (x := c) (by simp [Op.operands])) h).op
  | slice t x lo hi mx =>
    simp only [evPlain] at h
    split at h
    · cases h
    · rename_i hms
      obtain ⟨h1, rfl⟩ := lift_some h
      obtain ⟨v', hr, hv⟩ := sim_sliceOp hT h1 (ok1 (x := x) (by simp [Op.operands])) (QRel.map lo fun y hy => hρ y (by simp [Op.operands, hy])) (QRel.map hi fun y hy => hρ y (by simp [Op.operands, hy]))
        (QRel.map mx fun y hy => hρ y (by simp [Op.operands, hy])) (fun hm => by cases mx <;> cases hi <;> simp_all) w
      exact pure1 rfl hr hv
  | fieldAddr st x i =>
    obtain ⟨h1, rfl⟩ := lift_some h
    obtain ⟨v', hr, hv⟩ := sim_fieldAddr hT h1 (ok1 (x := x) (by simp [Op.operands])) w
    exact pure1 rfl hr hv
  | field t x i =>
    obtain ⟨h1, rfl⟩ := lift_some h
    obtain ⟨v', hr, hv⟩ := sim_field hT h1 (ok1 (x := x) (by simp [Op.operands])) w
    exact pure1 rfl hr hv
  | indexAddr t x i =>
    obtain ⟨h1, rfl⟩ := lift_some h
    obtain ⟨v', hr, hv⟩ := sim_indexAddr hT h1 (ok1 (x := x) (by simp [Op.operands])) (ok1 (x := i) (by simp [Op.operands])) w
    exact pure1 rfl hr hv
  | index t x i =>
    obtain ⟨h1, rfl⟩ := lift_some h
    obtain ⟨v', hr, hv⟩ := sim_index hT h1 (ok1 (x := x) (by simp [Op.operands])) (ok1 (x := i) (by simp [Op.operands])) w
    exact pure1 rfl hr hv
  | range t x => exact (sim_range hT hR hf (ok1 (x := x) (by simp [Op.operands])) h).op
  | next it isS => exact (sim_next (P := P) hR (ok1 (x := it) (by simp [Op.operands])) h).op
  | typeAssert x xt a ok =>
    obtain ⟨h1, rfl⟩ := lift_some h
    obtain ⟨v', hr, hv⟩ := sim_typeAssert (xt := xt) hT h1 (ok1 (x := x) (by simp [Op.operands])) w
    exact pure1 rfl hr hv
  | extract t i =>
    obtain ⟨h1, rfl⟩ := lift_some h
    have hx : VRel φ (ρ t) (ρ' t) := ok1 (by simp [Op.operands])
    generalize ρ t = vx at h1 hx
    have : ∃ v', (Instr.extract (ρ' t) i).run P w = .ok v' w ∧ VRel φ v v' := by
      generalize ρ' t = vx' at hx
      cases hx <;> simp only [extractOf] at h1 <;> try (cases h1; done)
      rename_i a a' hl hv
      obtain ⟨v', q1, q2⟩ := LRel.get ⟨hl, hv⟩ h1
      rw [Array.getElem?_toList] at q1
      exact ⟨v', by simp [Instr.extract, q1], q2⟩
    obtain ⟨v', hr, hv⟩ := this
    exact pure1 rfl hr hv
  | call c =>
    obtain ⟨callee, args, ts⟩ := c
    cases callee <;> (try simp only at h) <;> try (cases h; done)
    rename_i b
    have ha : LRel φ (args.toList.map ρ) (args.toList.map ρ') := LRel.map _ fun y hy => hρ y (by simp [Op.operands, Call.operands]; simpa using hy)
    have e : args.map ρ' = ⟨args.toList.map ρ'⟩ := by apply Array.ext'; simp
    have := sim_builtin (ty := ty) (consts := args.map fun | .const _ => true | _ => false) hT hBz hR hf ha h
    obtain ⟨φ', w', nx, q1, q2⟩ := this
    refine ⟨φ', w', nx, ?_, q2⟩
    simp only [execOp, resolve, Sem.run_bind, Sem.run_pure, Result.andThen_ok, invoke]
    rw [e]; exact q1
  | _ => cases h

end
end Go.Ev
