/-
  EV, PART E: more operations without memory.
-/
import Derived.Test.YtelpkdjibjddlaaEvD
set_option linter.unusedSimpArgs false
set_option linter.unusedVariables false
namespace Go.Ev
open Go Go.RowKit
section
variable {T : Tab} {P : Program} (hT : T.Ok P)
include hT

/-- The guard ahead of '=='. -/
theorem run_eqGuard {φ : Phi} (op : BinOp) (t : TypeId) (cx cy : Operand) {x y x' y' : Value} {b : Bool} (hx : VRel φ x x') (hy : VRel φ y y') (h : equalF T 50 t x y = some b)
    (hc : nilPair (Ev.isConst cx || Ev.isConst cy) x y = true) (w : World) : (eqGuard op t cx cy x' y').run P w = .ok () w := by
  cases hx with
  | bool => rw [eqGuard_at_bool]; rfl
  | int => rw [eqGuard_at_int]; rfl
  | string => rw [eqGuard_at_string]; rfl
  | ptrNil => rw [eqGuard_at_pointer]; rfl
  | ptr => rw [eqGuard_at_pointer]; rfl
  | sliceNil => rw [eqGuard_at_slice]; rfl
  | sliceEx => rw [eqGuard_at_slice]; rfl
  | sliceEnd => rw [eqGuard_at_slice]; rfl
  | sliceGone => rw [eqGuard_at_slice]; rfl
  | mapNil => rw [eqGuard_at_map]; rfl
  | map => rw [eqGuard_at_map]; rfl
  | func => rw [eqGuard_at_func]; rfl
  | yield => rw [eqGuard_at_func]; rfl
  | nilFunc => rw [eqGuard_at_nilFunc]; rfl
  | iface => rw [eqGuard_at_iface]; rfl
  | tuple => rw [eqGuard_at_tuple]; rfl
  | nilIface =>
    cases hy <;> first
      | (rw [eqGuard_nil_iface]; rfl)
      | (cases op <;> rfl)
      | skip
    cases cx <;> cases cy <;> first
      | (rw [eqGuard_nil_constR]; rfl)
      | (rw [eqGuard_nil_constL]; rfl)
      | (simp [nilPair, Ev.isConst] at hc)
  | agg a a' h1 h2 =>
    cases hy <;> first
      | (cases op <;> rfl)
      | skip
    have hok : T.eqOk t = true := by
      unfold equalF at h
      cases hd : T.und t with
      | none => simp [hd] at h
      | some d =>
        cases d <;> simp only [hd] at h <;> first | (cases h; done) | (by_cases e : T.eqOk t = true; exact e; rw [if_neg e] at h; cases h)
    exact run_eqGuard_agg w op t cx cy _ _ (hT.eqOk t hok).2

omit hT in
theorem bytes_beq (a b : ByteArray) : (a.toList == b.toList) = (a.data.toList == b.data.toList) := by rw [ByteArray.toList_eq, ByteArray.toList_eq]

theorem sim_intOp (op : BinOp) (t : TypeId) {k k' : IntKind} {a b : Int} {v : Value} (h : intOp op k a k' b = some v) (w : World) : (Go.binOp op t (.int k a) (.int k' b)).run P w = .ok v w ∧ Flat v := by
  have _ := hT
  unfold intOp at h
  by_cases hk : k = k'
  · subst hk
    cases op <;> simp only [if_true] at h <;> first
      | (cases h; done)
      | (split at h
         · cases h
         · rename_i hz; cases h; exact ⟨by simp [binOp_shl, binOp_shr, binOp_quo, binOp_rem, Op.shift, Op.intDiv, hz], .int _ _⟩)
      | (cases h; exact ⟨by simp [binOp_add, binOp_sub, binOp_mul, binOp_and, binOp_or, binOp_xor, binOp_eql, binOp_neq, binOp_lss, binOp_leq, binOp_gtr, binOp_geq, Op.intArith, Op.intBits], by constructor⟩)
  · cases op <;> simp only [if_neg hk] at h <;> first
      | (cases h; done)
      | (split at h
         · cases h
         · rename_i hz; cases h; exact ⟨by simp [binOp_shl, binOp_shr, Op.shift, hz], .int _ _⟩)

theorem sim_stringOp (op : BinOp) (t : TypeId) {a b : ByteArray} {v : Value} (h : stringOp op a.data.toList b.data.toList = some v) (w : World) : (Go.binOp op t (.string a) (.string b)).run P w = .ok v w ∧ Flat v := by
  have _ := hT
  have hb : Go.binOp op t (.string a) (.string b) = Op.stringOp op a b := by cases op <;> rfl
  rw [hb]
  unfold stringOp at h
  cases op <;> simp only at h <;> first
    | (cases h; done)
    | (split at h
       · rename_i hl
         cases h
         refine ⟨?_, .string _⟩
         have ha : a.size = a.data.toList.length := Array.length_toList.symm
         have hb : b.size = b.data.toList.length := Array.length_toList.symm
         simp only [Op.stringOp]
         rw [if_neg (by rw [ha, hb, IntKind.max_i64]; clear ha hb; omega)]
         simp only [Sem.run_pure]
         congr 2
       · cases h)
    | (cases h; exact ⟨by simp only [Op.stringOp, ByteArray.toList_eq, Sem.run_pure], .bool _⟩)

theorem sim_binop {φ : Phi} (op : BinOp) (t : TypeId) (cx cy : Operand) {x y x' y' v : Value} (h : binop T op t (isConst cx || isConst cy) x y = some v) (hx : VRel φ x x') (hy : VRel φ y y') (w : World) :
    ∃ v', (do eqGuard op t cx cy x' y'; Go.binOp op t x' y' : Sem Value).run P w = .ok v' w ∧ VRel φ v v' := by
  unfold binop at h
  split at h
  · rename_i k a k' b
    cases hx; cases hy
    obtain ⟨h1, h2⟩ := sim_intOp hT op t h w
    exact ⟨v, by rw [eqGuard_at_int]; simpa using h1, h2.vrel⟩
  · rename_i a b
    cases hx; cases hy
    obtain ⟨h1, h2⟩ := sim_stringOp hT op t h w
    exact ⟨v, by rw [eqGuard_at_string]; simpa using h1, h2.vrel⟩
  · rename_i hni hns
    have heq : ∀ (neg : Bool) (op : BinOp) (_ : op = if neg then .neq else .eql), Go.binOp op t x' y' = (do pure (.bool (neg ^^ (← Op.equal t x' y'))) : Sem Value) := by
      intro neg op ho
      subst ho
      cases neg
      · simp only [Bool.false_eq_true, if_false, Bool.false_bne]
        unfold Go.binOp
        split <;> first
          | rfl
          | (cases hx; cases hy; exact (hni _ _ _ _ rfl rfl).elim)
          | (cases hx; cases hy; exact (hns _ _ rfl rfl).elim)
          | (cases hx; done)
          | (rename_i h1 h2; cases h1; done)
          | simp_all
      · simp only [if_true, Bool.true_bne]
        unfold Go.binOp
        split <;> first
          | rfl
          | (cases hx; cases hy; exact (hni _ _ _ _ rfl rfl).elim)
          | (cases hx; cases hy; exact (hns _ _ rfl rfl).elim)
          | (cases hx; done)
          | simp_all
    have fin : ∀ (neg : Bool) (op : BinOp) (_ : op = if neg then .neq else .eql) (b : Bool), equalF T 50 t x y = some b →
        nilPair (Ev.isConst cx || Ev.isConst cy) x y = true →
        (do eqGuard op t cx cy x' y'; Go.binOp op t x' y' : Sem Value).run P w = .ok (.bool (neg ^^ b)) w := by
      intro neg op ho b hb hc
      have he := sim_equal hT 50 t x y b x' y' w hb hx hy Op.maxDepth (by decide)
      have hg := run_eqGuard hT op t cx cy hx hy hb hc w
      rw [heq neg op ho]
      simp only [Sem.run_bind, hg, Result.andThen_ok, Op.equal, he, Sem.run_pure]
    cases op <;> simp only at h <;> try (cases h; done)
    · split at h
      · rename_i hc
        simp only [Option.map_eq_some_iff] at h
        obtain ⟨b, hb, rfl⟩ := h
        exact ⟨.bool b, by simpa using fin false .eql rfl b hb hc, .bool b⟩
      · cases h
    · split at h
      · rename_i hc
        simp only [Option.map_eq_some_iff] at h
        obtain ⟨b, hb, rfl⟩ := h
        exact ⟨.bool (!b), by simpa using fin true .neq rfl b hb hc, .bool _⟩
      · cases h

theorem sim_unop {φ : Phi} (op : UnOp) {x x' v : Value} (h : unop op x = some v) (hx : VRel φ x x') (w : World) : ∃ v', (Op.unary op x').run P w = .ok v' w ∧ VRel φ v v' := by
  have _ := hT
  unfold unop at h
  split at h
  · cases hx; cases h; exact ⟨_, rfl, .int _ _⟩
  · cases hx; cases h; exact ⟨_, rfl, .bool _⟩
  · cases h

theorem sim_field {φ : Phi} {t : TypeId} {x x' : Value} {i : Nat} {v : Value} (h : field T t x i = some v) (hx : VRel φ x x') (w : World) : ∃ v', (Instr.field t x' i).run P w = .ok v' w ∧ VRel φ v v' := by
  unfold field at h
  cases hd : T.und t with
  | none => simp [hd] at h
  | some d =>
    split at h
    · rename_i fields cs hk
      rw [hd] at hk; cases hk
      cases hx with
      | agg _ cs' h1 h2 =>
        split at h
        · rename_i f hf
          obtain ⟨v', hr, hv⟩ := sim_part hT h ⟨h1, h2⟩ w
          exact ⟨v', by simp [Instr.field, run_und hT hd, hf, asAgg, hr], hv⟩
        · cases h
    · cases h

omit hT in
theorem VRel.ptr' {φ : Phi} {N o k : Nat} {L : Loc} (h : φ N = some L) : VRel φ (.pointer (some ⟨N, o + k, none⟩)) (.pointer (some ⟨L.blk, L.off + o + k, none⟩)) := by
  rw [Nat.add_assoc]; exact .ptr h

theorem sim_fieldAddr {φ : Phi} {t : TypeId} {x x' : Value} {i : Nat} {v : Value} (h : fieldAddr T t x i = some v) (hx : VRel φ x x') (w : World) : ∃ v', (Instr.fieldAt t x' i).run P w = .ok v' w ∧ VRel φ v v' := by
  unfold fieldAddr at h
  cases hd : T.und t with
  | none => simp [hd] at h
  | some d =>
    split at h
    · rename_i fields N o hk
      rw [hd] at hk; cases hk
      split at h
      · rename_i f hf
        split at h
        · rename_i n hn
          cases h
          cases hx with
          | ptr hL =>
            refine ⟨_, ?_, VRel.ptr' hL⟩
            simp [Instr.fieldAt, run_und hT hd, hf, Instr.sureAddr, fieldPlace, run_size hT hn, add_addr]
        · cases h
      · cases h
    · cases h

theorem sim_indexAddr {φ : Phi} {t : TypeId} {x x' ix ix' : Value} {v : Value} (h : indexAddr T t x ix = some v) (hx : VRel φ x x') (hi : VRel φ ix ix') (w : World) : ∃ v', (Instr.indexAt t x' ix').run P w = .ok v' w ∧ VRel φ v v' := by
  unfold indexAddr at h
  cases hd : T.und t with
  | none => simp [hd] at h
  | some d =>
    split at h
    · rename_i len elem N o k i hk
      rw [hd] at hk; cases hk
      split at h
      · rename_i n hn
        split at h
        · rename_i hc
          cases h
          cases hi
          cases hx with
          | ptr hL =>
            refine ⟨_, ?_, VRel.ptr' hL⟩
            simp [Instr.indexAt, asIntOf, run_und hT hd, Instr.sureAddr, hc, run_size hT hn, add_addr]
        · cases h
      · cases h
    · rename_i elem N o len cap k i hk
      rw [hd] at hk; cases hk
      split at h
      · rename_i n hn
        split at h
        · rename_i hc
          cases h
          cases hi
          cases hx with
          | sliceEx _ _ hL _ =>
            refine ⟨_, ?_, VRel.ptr' hL⟩
            simp [Instr.indexAt, asIntOf, run_und hT hd, hc, run_size hT hn, add_addr]
          | sliceEnd _ _ _ hL _ _ _ =>
            refine ⟨_, ?_, VRel.ptr' hL⟩
            simp [Instr.indexAt, asIntOf, run_und hT hd, hc, run_size hT hn, add_addr]
          | sliceGone _ _ => omega
        · cases h
      · cases h
    · cases h

theorem sim_index {φ : Phi} {t : TypeId} {x x' ix ix' : Value} {v : Value} (h : index T t x ix = some v) (hx : VRel φ x x') (hi : VRel φ ix ix') (w : World) : ∃ v', (Instr.index t x' ix').run P w = .ok v' w ∧ VRel φ v v' := by
  unfold index at h
  cases hd : T.und t with
  | none => simp [hd] at h
  | some d =>
    split at h
    · rename_i len elem cs k i hk
      rw [hd] at hk; cases hk
      split at h
      · rename_i n hn
        split at h
        · rename_i hc
          cases hi
          cases hx with
          | agg _ cs' h1 h2 =>
            obtain ⟨v', hr, hv⟩ := sim_part hT h ⟨h1, h2⟩ w
            exact ⟨v', by simp [Instr.index, asIntOf, run_und hT hd, hc, run_size hT hn, hr], hv⟩
        · cases h
      · cases h
    · rename_i s k i hk
      rw [hd] at hk; cases hk
      cases hi; cases hx
      split at h
      · rename_i hc
        simp only [Option.map_eq_some_iff] at h
        obtain ⟨b, hb, rfl⟩ := h
        have hb' : s[i.toNat]? = some b := by
          rw [Array.getElem?_toList] at hb
          obtain ⟨hlt, hb⟩ := Array.getElem?_eq_some_iff.1 hb
          have hlt' : i.toNat < s.size := hlt
          rw [getElem?_pos s i.toNat hlt']
          exact congrArg some hb
        refine ⟨_, ?_, .int _ _⟩
        simp [Instr.index, asIntOf, run_und hT hd, hc, hb']
      · cases h
    · cases h

theorem sim_typeAssert {φ : Phi} {x x' v : Value} {xt a : TypeId} {ok : Bool} (h : typeAssert T x a ok = some v) (hx : VRel φ x x') (w : World) : ∃ v', (Instr.typeAssert x' xt a ok).run P w = .ok v' w ∧ VRel φ v v' := by
  unfold typeAssert at h
  cases hd : T.und a with
  | none => simp [hd] at h
  | some d =>
    have pair : ∀ {v v' : Value} (b : Bool), VRel φ v v' → VRel φ (.tuple #[v, .bool b]) (.tuple #[v', .bool b]) := fun b hv =>
      .tuple _ _ rfl (LRel.cons hv (LRel.one (.bool b))).2
    split at h
    · cases h
    · rename_i d' hni hk
      rw [hd] at hk; cases hk
      cases hx
      split at h
      · rename_i hok
        simp only [Option.map_eq_some_iff] at h
        obtain ⟨z, hz, rfl⟩ := h
        refine ⟨.tuple #[z, .bool false], ?_, pair _ (hT.zero _ _ hz).2.vrel⟩
        simp only [Instr.typeAssert, Sem.run_bind, run_und hT hd, Result.andThen_ok]
        cases d <;> first
          | exact absurd rfl (hni _)
          | simp [hok, run_zero hT hz]
      · cases h
    · rename_i d' t u hni hk
      rw [hd] at hk; cases hk
      cases hx with
      | iface _ hu =>
        split at h
        · rename_i e
          subst e
          cases h
          rename_i u'
          refine ⟨if ok then .tuple #[u', .bool true] else u', ?_, ?_⟩
          · simp only [Instr.typeAssert, Sem.run_bind, run_und hT hd, Result.andThen_ok]
            cases d <;> first
              | exact absurd rfl (hni _)
              | simp
          · cases ok
            · exact hu
            · exact pair _ hu
        · rename_i hne
          split at h
          · rename_i hok
            simp only [Option.map_eq_some_iff] at h
            obtain ⟨z, hz, rfl⟩ := h
            refine ⟨.tuple #[z, .bool false], ?_, pair _ (hT.zero _ _ hz).2.vrel⟩
            simp only [Instr.typeAssert, Sem.run_bind, run_und hT hd, Result.andThen_ok]
            cases d <;> first
              | exact absurd rfl (hni _)
              | simp [hok, hne, run_zero hT hz]
          · cases h
    · cases h

end
end Go.Ev
