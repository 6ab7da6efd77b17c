/-
  EV, PART H: append.
-/
import Derived.Test.YtelpkdjibjddlaaEvG
import Derived.Laws.AppendOwn
set_option linter.unusedSimpArgs false
set_option linter.unusedVariables false
namespace Go.Ev
open Go Go.RowKit

theorem lenOf_rel {φ : Phi} {x x' : Value} {n : Nat} (h : lenOf x = some n) (hx : VRel φ x x') (P : Program) (w : World) : (Builtin.lenOf x').run P w = .ok n w := by
  cases hx <;> simp only [lenOf] at h <;> try (cases h; done)
  · rename_i s
    cases h
    rw [show s.data.toList.length = s.size from Array.length_toList]; rfl
  all_goals (cases h; rfl)

theorem byteVals_lrel {φ : Phi} (l : List UInt8) : LRel φ (byteVals l) (byteVals l) := Flat.lrel fun v hv => by
  simp only [byteVals, List.mem_map] at hv
  obtain ⟨b, _, rfl⟩ := hv
  exact .int _ _

/-- The first cells of what is appended or copied. -/
theorem sim_firstCells {φ : Phi} {B : Base} {s s' : St} {w : World} (hR : Rel φ B s.t.get w) {n size : Nat} {x x' : Value} {l : List Value} (hx : VRel φ x x') (h : firstCells n size x s = some (l, s')) (P : Program) :
    s' = s ∧ ∃ l', LRel φ l l' ∧ (Builtin.firstCells size n x').run P w = .ok ⟨l'⟩ w := by
  have zero : ∀ (a : Addr), (Go.loadCells a (0 * size)).run P w = .ok ⟨[]⟩ w := fun a => by
    rw [Nat.zero_mul]; rfl
  unfold firstCells at h
  split at h
  · rename_i N o _ _
    split at h
    · rename_i hn
      obtain ⟨rfl, rfl⟩ := ret_some h
      refine ⟨rfl, [], .nil, ?_⟩
      subst hn
      cases hx <;> exact zero _
    · split at h
      · rename_i hn hle
        obtain ⟨⟨vs, e, hi⟩, s1, h1, h2⟩ := bnd_some h
        obtain ⟨hN, rfl⟩ := rowOf_some h1
        simp only at h2 hN
        obtain ⟨hr, rfl⟩ := lift_some h2
        obtain ⟨L, r', hL, hrel, hrun⟩ := hR.cells hN (P := P) hr
        refine ⟨rfl, r', hrel, ?_⟩
        cases hx with
        | sliceEx _ _ hL' _ => rw [hL] at hL'; cases hL'; exact hrun
        | sliceEnd _ _ _ hL' _ _ _ => rw [hL] at hL'; cases hL'; exact hrun
        | sliceGone a' _ => omega
      · cases h
  · obtain ⟨rfl, rfl⟩ := ret_some h
    cases hx
    exact ⟨rfl, [], .nil, rfl⟩
  · rename_i b
    obtain ⟨rfl, rfl⟩ := ret_some h
    cases hx
    refine ⟨rfl, byteVals (b.data.toList.take n), byteVals_lrel _, ?_⟩
    simp only [Builtin.firstCells, Sem.run_pure]
    congr 1
    apply Array.ext'
    rw [Array.toList_map, Lib.extract_data]
    simp [byteVals]
  · cases h

/-- A name for a row that no other live name stands for. -/
theorem Rel.adopt {φ : Phi} {B : Base} {H : Nat → Option Blk} {w : World} (h : Rel φ B H w) {n : Nat} (hn : φ n = none) (b : Blk) (L : Loc) (hin : L.blk < w.heap.size)
    (hap : ∀ N b' L', H N = some b' → φ N = some L' → L'.blk ≠ L.blk) (hb : BRel φ B L b w) : Rel (φ.add n L) B (upd H n (some b)) w := by
  have hle := Phi.le_add L hn
  have old : ∀ {N L'}, N ≠ n → φ.add n L N = some L' → φ N = some L' := fun hN e => by
    unfold Phi.add at e; rwa [if_neg hN] at e
  refine ⟨h.base, fun N b' e => ?_, fun N N' b1 b2 L1 L2 hne e1 e2 l1 l2 hwr => ?_, fun N L' e => ?_⟩
  · by_cases hN : N = n
    · subst hN
      rw [upd_same] at e; cases e
      exact ⟨L, Phi.add_same _ _ _, hb.mono hle⟩
    · rw [upd_ne _ _ hN] at e
      obtain ⟨L', hL', r⟩ := h.blk N b' e
      exact ⟨L', hle _ _ hL', r.mono hle⟩
  · by_cases h1 : N = n
    · subst h1
      rw [Phi.add_same] at l1; cases l1
      rw [upd_ne _ _ (Ne.symm hne)] at e2
      exact Ne.symm (hap N' b2 L2 e2 (old (Ne.symm hne) l2))
    · by_cases h2 : N' = n
      · subst h2
        rw [Phi.add_same] at l2; cases l2
        rw [upd_ne _ _ h1] at e1
        exact hap N b1 L1 e1 (old h1 l1)
      · rw [upd_ne _ _ h1] at e1
        rw [upd_ne _ _ h2] at e2
        exact h.apart N N' b1 b2 L1 L2 hne e1 e2 (old h1 l1) (old h2 l2) hwr
  · unfold Phi.add at e
    by_cases hN : N = n
    · rw [if_pos hN] at e; cases e; exact hin
    · rw [if_neg hN] at e; exact h.inw _ _ e

section
variable {T : Tab} {P : Program} (hT : T.Ok P)
include hT

/-- An append that makes a new row. -/
theorem run_append_new {φ : Phi} {B : Base} {s : St} {w : World} (hR : Rel φ B s.t.get w) {sT xT ty elem : TypeId} {dx : TypeDesc} (hs : T.und sT = some (.slice elem)) (hx : T.und xT = some dx) (hdx : appendable dx = true)
    {size bytes : Nat} {z : Value} (hsz : T.size elem = some size) (hby : T.bytes elem = some bytes) (hz : T.zero elem = some z) {base : Option Addr} {sLen sCap n : Nat} {x x' : Value} (hn : lenOf x = some n) (hxr : VRel φ x x')
    {base' : Option Addr} {sCap' : Nat} {old new : List Value} (hold : firstCells sLen size (.slice base sLen sCap) s = some (old, s)) (hbase : VRel φ (.slice base sLen sCap) (.slice base' sLen sCap'))
    (hnew : firstCells n size x s = some (new, s)) (hroom : sCap' < sLen + n) (hb : (sLen + n) * bytes ≤ 140737488355328) (hlt : sLen + n < END) (hsize : 0 < size)
    (hnl : new.length = n * size) (hol : old.length = sLen * size) (hzl : (cellsOf z).length = size) :
    ∃ c cap', c.size = cap' * size ∧ sLen + n ≤ cap' ∧ (∀ (i : Nat) v, (old ++ new)[i]? = some v → ∃ v', c[i]? = some v' ∧ VRel φ v v') ∧
      (Builtin.append_ #[sT, xT] ty #[.slice base' sLen sCap', x']).run P w = .ok (.slice (some ⟨w.heap.size, 0, none⟩) (sLen + n) cap') (w.drew.alloc (.cells c elem)) := by
  obtain ⟨⟨i, hi, hz1⟩, hzf⟩ := hT.zero _ _ hz
  have hisz : i.size = size := by obtain ⟨j, hj, e⟩ := hT.size _ _ hsz; rw [hi] at hj; cases hj; exact e
  have hiby : i.bytes = bytes := by obtain ⟨j, hj, e⟩ := hT.bytes _ _ hby; rw [hi] at hj; cases hj; exact e
  have hRd : Rel φ B s.t.get w.drew := hR.heap rfl
  obtain ⟨_, old', ho1, ho2⟩ := sim_firstCells hRd hbase hold P
  obtain ⟨_, new', hn1, hn2⟩ := sim_firstCells hRd hxr hnew P
  have hzs : z.cells.size = size := by rw [← Array.length_toList]; exact hzl
  have hfit := growslice_fits (old := sCap') (bytes := bytes) hroom hb
  have hEND : END = 4611686018427387904 := rfl
  have hge := grownCap_ge w (sLen + n) sCap' elem
  generalize hcap : grownCap w (sLen + n) sCap' elem = cap' at hge
  refine ⟨⟨old'⟩ ++ ⟨new'⟩ ++ Builtin.zeroCells z.cells (cap' - (sLen + n)), cap', ?_, hge, ?_, ?_⟩
  · simp only [Array.size_append, List.size_toArray, size_zeroCells, hzs, ← ho1.1, ← hn1.1, hol, hnl, ← Nat.add_mul]
    congr 1; omega
  · intro j v hv
    obtain ⟨v', hv1, hv2⟩ := (ho1.append hn1).get hv
    refine ⟨v', ?_, hv2⟩
    have hj : j < (old' ++ new').length := (List.getElem?_eq_some_iff.1 hv1).1
    rw [← Array.getElem?_toList]
    simp only [Array.toList_append]
    rw [List.getElem?_append_left (by simpa using hj)]
    exact hv1
  · have hm : ((TypeDesc.slice elem) matches .int _) = false := rfl
    have h1 : ¬ (sLen + n ≤ sCap') := by omega
    have h2 : ¬ (((sLen + n : Nat) : Int) > IntKind.i64.max) := by rw [IntKind.max_i64]; omega
    have h3 : ¬ (Builtin.nextslicecap (sLen + n) sCap' * bytes > 2 ^ 48) := by have : (2 : Nat) ^ 48 = 281474976710656 := rfl; omega
    have hc : (Question.appendCap (sLen + n) sCap' elem).cut (w.tape w.drawn (.appendCap (sLen + n) sCap' elem)) = cap' := hcap
    cases dx <;> simp only [appendable] at hdx <;> try (cases hdx; done)
    all_goals
      simp only [Builtin.append_, List.getElem?_toArray, List.getElem?_cons_zero, List.getElem?_cons_succ, Sem.run_bind, run_und hT hs, run_und hT hx, run_size hT hsz, Result.andThen_ok, Sem.run_pure, Bool.false_eq_true, if_false, lenOf_rel hn hxr, h1, h2, false_and, run_info hT hi, hiby, h3,
        run_choose_drew, Question.forced, run_askRoom, ho2, Bool.not_false, if_true, hn2, run_zero hT hz, Go.newRow, run_newObj_alloc, hc]
      rfl

/-- An append that has room. -/
theorem run_append_fits' {φ : Phi} {B : Base} {s : St} {w w2 : World} (hR : Rel φ B s.t.get w) {sT xT ty elem : TypeId} {dx : TypeDesc} (hs : T.und sT = some (.slice elem)) (hx : T.und xT = some dx) (hdx : appendable dx = true)
    {size : Nat} (hsz : T.size elem = some size) {sLen n : Nat} {x x' : Value} (hn : lenOf x = some n) (hxr : VRel φ x x')
    {base' : Option Addr} {sCap' : Nat} {new new' : List Value} (hnew : firstCells n size x s = some (new, s)) (hroom : sLen + n ≤ sCap')
    (hnew' : (Builtin.firstCells size n x').run P w = .ok ⟨new'⟩ w)
    (hst : ∀ a, base' = some a → (Go.storeCells (a.add (sLen * size)) new').run P w = .ok () w2) (hno : base' = none → w2 = w) :
    (Builtin.append_ #[sT, xT] ty #[.slice base' sLen sCap', x']).run P w = .ok (.slice base' (sLen + n) sCap') w2 := by
  cases dx <;> simp only [appendable] at hdx <;> try (cases hdx; done)
  all_goals
    cases base' with
    | none =>
      simp only [Builtin.append_, List.getElem?_toArray, List.getElem?_cons_zero, List.getElem?_cons_succ, Sem.run_bind, run_und hT hs, run_und hT hx, run_size hT hsz, Result.andThen_ok, Sem.run_pure, Bool.false_eq_true, if_false, lenOf_rel hn hxr,
        if_pos hroom, Bool.not_false, if_true, hnew']
      rw [hno rfl]
    | some a =>
      simp only [Builtin.append_, List.getElem?_toArray, List.getElem?_cons_zero, List.getElem?_cons_succ, Sem.run_bind, run_und hT hs, run_und hT hx, run_size hT hsz, Result.andThen_ok, Sem.run_pure, Bool.false_eq_true, if_false, lenOf_rel hn hxr,
        if_pos hroom, Bool.not_false, if_true, hnew', hst a rfl]

omit hT in
theorem Keeps.grow {φ : Phi} {H : Nat → Option Blk} {w : World} {o : Obj} : Keeps φ H w (w.drew.alloc o) :=
  ⟨rfl, rfl, rfl, by rw [size_alloc]; show w.heap.size ≤ w.heap.size + 1; omega, fun _ hk => .inl (heap_alloc_old w.drew o hk)⟩

omit hT in
/-- A name, struck, whose block is written. -/
theorem Rel.strike {φ : Phi} {B : Base} {H : Nat → Option Blk} {w w' : World} (h : Rel φ B H w) {N : Nat} {b : Blk} {L : Loc} (hN : H N = some b) (hL : φ N = some L) (hw : wr b)
    (hsz : w'.heap.size = w.heap.size) (hk : ∀ k, k ≠ L.blk → w'.heap[k]? = w.heap[k]?) : Rel φ B (upd H N none) w' := by
  have live : ∀ {M m}, upd H N none M = some m → M ≠ N ∧ H M = some m := fun {M m} e => by
    by_cases hM : M = N
    · subst hM; rw [upd_same] at e; cases e
    · exact ⟨hM, by rwa [upd_ne _ _ hM] at e⟩
  refine ⟨hsz ▸ h.base, fun M m e => ?_, fun M M' m m' L1 L2 hne e1 e2 l1 l2 hwr => h.apart M M' m m' L1 L2 hne (live e1).2 (live e2).2 l1 l2 hwr, fun M L' e => hsz ▸ h.inw M L' e⟩
  obtain ⟨hM, e⟩ := live e
  obtain ⟨L', hL', r⟩ := h.blk M m e
  exact ⟨L', hL', r.congr (hk _ (Ne.symm (h.apart N M b m L L' (Ne.symm hM) hN e hL hL' hw)))⟩

omit hT in
theorem slice_length {vs r : List Value} {o n : Nat} (h : slice vs o n = some r) : r.length = n ∧ r = (vs.drop o).take n := by
  unfold slice at h
  simp only at h
  split at h
  · rename_i hl; cases h; exact ⟨hl, rfl⟩
  · cases h

set_option maxHeartbeats 1000000 in
theorem sim_appendEnd {φ : Phi} {B : Base} (hBz : B.sz = P.cellsOf) {s s' : St} {w : World} (hR : Rel φ B s.t.get w) (hf : Fresh φ s.next s'.next) {sT xT ty elem : TypeId} {dx : TypeDesc} (hsT : T.und sT = some (.slice elem)) (hxT : T.und xT = some dx) (hdx : appendable dx = true)
    {size bytes : Nat} {z : Value} (hsz : T.size elem = some size) (hby : T.bytes elem = some bytes) (hz : T.zero elem = some z) {N o sLen n : Nat} {x x' : Value} (hn : lenOf x = some n) (hx : VRel φ x x')
    {base' : Value} (hb : VRel φ (.slice (some ⟨N, o, none⟩) sLen (END + size)) base') {new : List Value} (hnew : firstCells n size x s = some (new, s)) {v : Value}
    (h : appendEnd elem size bytes sLen n (cellsOf z).length new N o s = some (v, s')) : Came φ B s w v s' ((Builtin.append_ #[sT, xT] ty #[base', x']).run P w) := by
  have hEND : END = 4611686018427387904 := rfl
  unfold appendEnd at h
  obtain ⟨⟨vs, e, hi⟩, s2, h3, h4⟩ := bnd_some h
  obtain ⟨hN, rfl⟩ := rowOf_some h3
  simp only at h4 hN
  obtain ⟨old, s3, h5, h6⟩ := bnd_some h4
  obtain ⟨hold, rfl⟩ := lift_some h5
  split at h6
  · rename_i hc
    obtain ⟨c2, c3, c4, c5, c6, c7, c8, c9, c10, c11, c12⟩ := hc
    obtain ⟨_, s4, h7, h8⟩ := bnd_some h6
    obtain ⟨_, rfl⟩ := delB_some h7
    obtain ⟨N', s5, h9, h10⟩ := bnd_some h8
    obtain ⟨rfl, rfl⟩ := newB_some h9
    obtain ⟨rfl, rfl⟩ := ret_some h10
    subst c2
    have hfr : φ s3.next = none := hf s3.next (Nat.le_refl _) (by simp)
    obtain ⟨hol, hold'⟩ := slice_length hold
    generalize hcq : END + size = cq at hb
    cases hb with
    | sliceEx _ _ _ hlt => omega
    | sliceGone _ _ => omega
    | @sliceEnd _ _ L _ es cap' hL hcp hll hes =>
      obtain rfl : es = size := by omega
      clear hcq
      obtain ⟨L2, hL2, c, fz, k1, k2, k3, k4, k5⟩ := hR.blk N _ hN
      rw [hL] at hL2; cases hL2
      obtain ⟨hB, hfz, hdv⟩ := k5 c5
      have hwr : wr (.cells vs e hi) := c5
      have hoc : o ≤ L.cap := by omega
      obtain ⟨_, new', hn1, hn2⟩ := sim_firstCells hR hx hnew P
      by_cases hroom : sLen + n ≤ cap'
      · -- there is room
        have hmul : (sLen + n) * es ≤ cap' * es := Nat.mul_le_mul_right _ hroom
        rw [Nat.add_mul] at hmul
        have hlen' : new'.length = n * es := by rw [← hn1.1]; exact c10
        have hcell : ∀ i, i < c.size → w.cell? ⟨L.blk, i, none⟩ = c[i]? := fun i _ => by simp [World.cell?, k1]
        have hrun := run_storeCells_cells (P := P) L.blk (L.off + o + sLen * es) new' 0 w (fun j hj => by
            rw [Nat.add_zero, hcell _ (by omega), Array.getElem?_eq_getElem (by omega)]; rfl)
          (fun j hj => not_frozen k1 (by omega))
          (fun v hv' => by
            obtain ⟨i, hi', rfl⟩ := List.getElem_of_mem hv'
            have hl : i < new.length := by rw [hn1.1]; exact hi'
            exact oneCell_eq (hn1.2 i new[i] new'[i] (List.getElem?_eq_getElem hl) (List.getElem?_eq_getElem hi')) (List.all_eq_true.1 c9 _ (List.getElem_mem hl)))
        obtain ⟨a1, a2, a3, a4, a5, c', a6, a7, a8⟩ := setCells_heap L.blk new' (L.off + o + sLen * es + 0) w c e fz k1
        rw [Nat.add_zero] at hrun a1 a2 a3 a4 a5 a6 a8
        generalize hw2 : w.setCells L.blk (L.off + o + sLen * es) new' = w2 at *
        have hRd : Rel φ B (upd s3.t.get N none) w2 := hR.strike hN hL hwr a4 a5
        have hRn := hRd.adopt hfr (.cells (old ++ new) e (hi - o)) ⟨L.blk, L.off + o, L.cap - o⟩ (by have := hR.inw _ _ hL; simp only; omega) (fun M b' L' e1 e2 => by
            by_cases hM : M = N
            · subst hM; rw [upd_same] at e1; cases e1
            · rw [upd_ne _ _ hM] at e1
              exact Ne.symm (hR.apart N M _ b' L L' (Ne.symm hM) hN e1 hL e2 hwr))
          ⟨c', fz, a6, by simp only [List.length_append, hol, c10]; omega, by simp only; omega, fun i v hv => by
              simp only
              rw [a8]
              by_cases hio : i < old.length
              · rw [List.getElem?_append_left hio] at hv
                rw [if_neg (by omega)]
                rw [hold', List.getElem?_take, if_pos (by omega), List.getElem?_drop] at hv
                obtain ⟨v', q1, q2⟩ := k4 _ _ hv
                exact ⟨v', by rw [Nat.add_assoc]; exact q1, q2⟩
              · rw [List.getElem?_append_right (by omega)] at hv
                obtain ⟨v', q1, q2⟩ := hn1.get hv
                have hlt : i - old.length < new.length := (List.getElem?_eq_some_iff.1 hv).1
                exact ⟨v', by rw [if_pos (by omega)]; rw [show L.off + o + i - (L.off + o + sLen * es) = i - old.length by omega]; exact q1, q2⟩,
            fun _ => ⟨hB, by simp only; omega, by simp only; rw [hBz, cellsOf_size hT hsz] at hdv ⊢; rw [Nat.add_mod, hdv, c12]; simp⟩⟩
        refine ⟨_, w2, .slice (some ⟨L.blk, L.off + o, none⟩) (sLen + n) cap', ?_, by simp, .add ⟨L.blk, L.off + o, L.cap - o⟩ hfr hB, ?_, ?_, ?_⟩
        · exact run_append_fits' hT hR hsT hxT hdx hsz hn hx hnew hroom hn2 (fun a ha => by cases ha; rw [add_addr]; exact hrun) (fun ha => by cases ha)
        · simp only
          rw [get_upd, get_upd]; exact hRn
        · have := VRel.sliceEnd (φ := φ.add s3.next ⟨L.blk, L.off + o, L.cap - o⟩) (N := s3.next) (o := 0) (L := ⟨L.blk, L.off + o, L.cap - o⟩) (sLen + n) es cap' (Phi.add_same _ _ _) (by simp only; omega) hroom hes
          exact this
        · exact Keeps.set hN hL hwr a1 a2 a3 a4 a5
      · -- there is none
        have hold0 : firstCells sLen es (.slice (some ⟨N, o, none⟩) sLen (END + es)) s3 = some (old, s3) := by
          simp only [firstCells]
          by_cases h0 : sLen = 0
          · subst h0
            have : old = [] := List.eq_nil_of_length_eq_zero (by omega)
            simp [this, ret]
          · rw [if_neg h0, if_pos (Nat.le_refl _)]
            unfold bnd rowOf
            simp only [hN, hold, lift]
        obtain ⟨cc, cap2, q1, q2, q3, q4⟩ := run_append_new (ty := ty) hT hR hsT hxT hdx hsz hby hz hn hx hold0 (.sliceEnd _ _ _ hL hcp hll hes) hnew (by omega) c7 c8 c3 c10 hol c11
        have hRd : Rel φ B (upd s3.t.get N none) w.drew := (hR.del N).heap rfl
        have hRn := hRd.newRow hfr (old ++ new) cc e (hi - o) (0, 0) (by simp only [List.length_append, hol, c10]; rw [q1, ← Nat.add_mul]; exact Nat.mul_le_mul_right _ q2) q3 (fun _ => .inl rfl)
        refine ⟨_, _, _, q4, by simp, .add ⟨w.heap.size, 0, cc.size⟩ hfr hR.newOk, ?_, ?_, .grow⟩
        · simp only
          rw [get_upd, get_upd]; exact hRn
        · have := VRel.sliceEnd (φ := φ.add s3.next ⟨w.heap.size, 0, cc.size⟩) (N := s3.next) (o := 0) (L := ⟨w.heap.size, 0, cc.size⟩) (sLen + n) es cap2 (Phi.add_same _ _ _) (by simp only; omega) q2 hes
          exact this
  · cases h6

theorem sim_append {φ : Phi} {B : Base} (hBz : B.sz = P.cellsOf) {s s' : St} {w : World} (hR : Rel φ B s.t.get w) (hf : Fresh φ s.next s'.next) {ts : Array TypeId} {ty : TypeId} {args args' : List Value} (ha : LRel φ args args') {v : Value}
    (h : append T ts.toList args s = some (v, s')) : Came φ B s w v s' ((Builtin.append_ ts ty ⟨args'⟩).run P w) := by
  have hEND : END = 4611686018427387904 := rfl
  generalize hts : ts.toList = tl at h
  rcases tl with _ | ⟨sT, _ | ⟨xT, trest⟩⟩
  · cases h
  · cases h
  rcases args with _ | ⟨b, _ | ⟨x, _ | ⟨y, r⟩⟩⟩
  · cases h
  · cases h
  · simp only [append] at h
    obtain ⟨b', r1, rfl, hb, ha1⟩ := ha.cons_inv
    obtain ⟨x', r2, rfl, hx, ha2⟩ := ha1.cons_inv
    obtain rfl := ha2.nil_inv
    have hts2 : ∀ (a : Array Value), Builtin.append_ ts ty a = Builtin.append_ #[sT, xT] ty a := fun a => by
      unfold Builtin.append_
      have e0 : ts[0]? = some sT := by rw [← Array.getElem?_toList, hts]; rfl
      have e1 : ts[1]? = some xT := by rw [← Array.getElem?_toList, hts]; rfl
      simp only [e0, e1]
      rfl
    rw [hts2]
    rcases hsT : T.und sT with _ | d0
    · simp [hsT, fail] at h
    rcases hxT : T.und xT with _ | dx
    · cases d0 <;> simp [hsT, hxT, fail] at h
    cases d0 <;> simp only [hsT, hxT, Option.map_some] at h <;> try (cases h; done)
    rename_i elem
    rcases hdx : appendable dx with _ | _
    · simp [hdx, fail] at h
    cases b <;> simp only [hdx] at h <;> try (cases h; done)
    · rename_i base sLen sCap
      unfold appendOf at h
      obtain ⟨size, _, h1, g1⟩ := bnd_some h
      clear h
      obtain ⟨hsz, rfl⟩ := lift_some h1
      clear h1
      obtain ⟨bytes, _, h1, g2⟩ := bnd_some g1
      clear g1
      obtain ⟨hby, rfl⟩ := lift_some h1
      clear h1
      obtain ⟨z, _, h1, g3⟩ := bnd_some g2
      clear g2
      obtain ⟨hz, rfl⟩ := lift_some h1
      clear h1
      obtain ⟨n, _, h1, g4⟩ := bnd_some g3
      clear g3
      obtain ⟨hn, rfl⟩ := lift_some h1
      clear h1
      obtain ⟨new, s1, hnew, h⟩ := bnd_some g4
      clear g4
      obtain ⟨rfl, new', hn1, hn2⟩ := sim_firstCells hR hx hnew P
      split at h
      · -- to the end of its row
        split at h
        · split at h
          · rename_i N o hcap
            rw [hcap] at hb
            exact sim_appendEnd hT hBz hR hf hsT hxT hdx hsz hby hz hn hx hb hnew h
          · cases h
        · cases h
      · rename_i hcap
        have hb' : ∃ base', b' = .slice base' sLen sCap ∧ (base = none → base' = none) := by
          cases hb with
          | sliceNil _ _ _ => exact ⟨none, rfl, fun _ => rfl⟩
          | sliceEx _ _ _ _ => exact ⟨_, rfl, fun h => by cases h⟩
          | sliceEnd => omega
          | sliceGone => omega
        obtain ⟨base', rfl, hbn⟩ := hb'
        split at h
        · rename_i hroom
          split at h
          · rename_i N o
            obtain ⟨_, s2, h1, h2⟩ := bnd_some h
            obtain ⟨rfl, rfl⟩ := ret_some h2
            obtain ⟨hnx, hst⟩ := sim_storeCells (P := P) hT hR hn1 h1
            cases hb with
            | @sliceEx _ _ L _ _ hL _ =>
              rcases hst with ⟨he, rfl⟩ | ⟨_, L', w2, hL', hrun, hR', hK⟩
              · have he' : new' = [] := by have := hn1.1; rw [he] at this; exact List.eq_nil_of_length_eq_zero this.symm
                subst he'
                exact .same hR (run_append_fits' hT hR hsT hxT hdx hsz hn hx hnew hroom hn2 (fun a _ => rfl) (fun _ => rfl)) (.sliceEx _ _ hL (by omega))
              · rw [hL] at hL'; cases hL'
                refine ⟨φ, w2, _, run_append_fits' hT hR hsT hxT hdx hsz hn hx hnew hroom hn2 (fun a ha => by cases ha; rw [add_addr, Nat.add_assoc]; exact hrun) (fun e => by cases e), by omega, .refl _ _ _, hR', .sliceEx _ _ hL (by omega), hK⟩
            | sliceEnd => omega
            | sliceGone => omega
          · obtain ⟨rfl, rfl⟩ := ret_some h
            obtain rfl := hbn rfl
            exact .same hR (run_append_fits' hT hR hsT hxT hdx hsz hn hx hnew hroom hn2 (fun a ha => by cases ha) (fun _ => rfl)) (.sliceNil _ _ (by omega))
          · cases h
        · rename_i hroom
          unfold appendNew at h
          obtain ⟨old, s2, ho, g⟩ := bnd_some h
          clear h
          obtain ⟨rfl, _⟩ := sim_firstCells hR hb ho P
          split at g
          · rename_i hc
            obtain ⟨c1, c2, c3, c4, c5, c6, c7⟩ := hc
            obtain ⟨N', s5, h9, h10⟩ := bnd_some g
            obtain ⟨rfl, rfl⟩ := newB_some h9
            obtain ⟨rfl, rfl⟩ := ret_some h10
            have hfr : φ s2.next = none := hf s2.next (Nat.le_refl _) (by simp)
            obtain ⟨cc, cap2, q1, q2, q3, q4⟩ := run_append_new (ty := ty) hT hR hsT hxT hdx hsz hby hz hn hx ho hb hnew (by omega) c3 c4 c1 c5 c6 c7
            have hRn := (hR.heap (w' := w.drew) rfl).newRow hfr (old ++ new) cc elem 0 (0, 0) (by simp only [List.length_append, c5, c6]; rw [q1, ← Nat.add_mul]; exact Nat.mul_le_mul_right _ q2) q3 (fun _ => .inl rfl)
            refine ⟨_, _, _, q4, by simp, .add ⟨w.heap.size, 0, cc.size⟩ hfr hR.newOk, ?_, ?_, .grow⟩
            · simp only
              rw [get_upd]; exact hRn
            · have := VRel.sliceEnd (φ := φ.add s2.next ⟨w.heap.size, 0, cc.size⟩) (N := s2.next) (o := 0) (L := ⟨w.heap.size, 0, cc.size⟩) (sLen + n) size cap2 (Phi.add_same _ _ _) (by simp only; omega) q2 c2
              exact this
          · cases g
  · cases h

end

end Go.Ev
