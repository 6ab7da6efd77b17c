/-
  EV, PART T: a region that draws its order: whatever the order, what the evaluator has found comes out.
-/
import Derived.Test.YtelpkdjibjddlaaEvS
import Derived.Below
import GoSem.Extern.Table
import Derived.KernelRfl
set_option linter.unusedSimpArgs false
set_option linter.unusedVariables false
namespace Go.Ev
open Go Go.RowKit
def dstOf (ops : Array Oper) (i : Nat) : Option Tmp := (ops[i]?).bind (·.dst)
theorem get_put {fr : Fr} {dst : Option Tmp} {v : Value} (d : Nat) : (fr.put dst v).tmps[d]? = if dst = some d then (fr.tmps[d]?).map (fun _ => v) else fr.tmps[d]? := by
  cases dst with
  | none => simp [Fr.put]
  | some e =>
    simp only [Fr.put,List.getElem?_set,Option.some.injEq]
    by_cases h : e = d
    · subst h
      rw [if_pos rfl,if_pos rfl]
      by_cases hl : e < fr.tmps.length
      · rw [if_pos hl,List.getElem?_eq_getElem hl]; rfl
      · rw [if_neg hl,List.getElem?_eq_none (Nat.le_of_not_lt hl)]; rfl
    · rw [if_neg h,if_neg h]
theorem put_defers (fr : Fr) (dst : Option Tmp) (v : Value) : (fr.put dst v).defers = fr.defers := by cases dst <;> rfl
section
variable {T : Tab} {rec : RunCode} {ops : Array Oper} {X : Nat → Tr} (hX : ∀ j,j < ops.size → ∃ o,Good T rec ops X j o)
include hX
theorem next_mono {i : Nat} : ∀ {j : Nat},i ≤ j → j ≤ ops.size → (X i).st.next ≤ (X j).st.next
  | 0, h, _ => by have : i = 0 := by omega
                  subst this; exact Nat.le_refl _
  | j + 1,h,hj => by
    by_cases e : i = j + 1
    · subst e; exact Nat.le_refl _
    · refine Nat.le_trans (next_mono (i := i) (j := j) (by omega) (by omega)) ?_
      obtain ⟨o,g⟩ := hX j (by omega)
      cases hr : (X j).ran with
      | false => rw [(g.skip hr).2]; exact Nat.le_refl _
      | true => have := g.one hr; rw [← this.lo,← this.hi]; exact this.shown.le
theorem touch_step {j : Nat} (hj : j < ops.size) (N : Nat) : (X (j + 1)).st.t.get N = if (X j).touch N = true then (X j).b.t.get N else (X j).st.t.get N := by
  obtain ⟨o,g⟩ := hX j hj
  cases hr : (X j).ran with
  | false => rw [(g.skip hr).2]; simp [Tr.touch,hr]
  | true => rw [(g.one hr).heap N]; simp [Tr.touch,hr]
theorem clean (h0 : ∀ N,(X 0).st.next ≤ N → N < (X ops.size).st.next → (X 0).st.t.get N = none) : ∀ {j : Nat},j ≤ ops.size → ∀ N,(X j).st.next ≤ N → N < (X ops.size).st.next → (X j).st.t.get N = none
  | 0,_,N,h1,h2 => h0 N h1 h2
  | j + 1,hj,N,h1,h2 => by
    have ih := clean h0 (j := j) (by omega) N (Nat.le_trans (next_mono hX (Nat.le_succ j) hj) h1) h2
    rw [touch_step hX (by omega)]
    split
    · rename_i ht
      exfalso
      obtain ⟨o,g⟩ := hX j (by omega)
      simp only [Tr.touch,Bool.and_eq_true] at ht
      have one := g.one ht.1
      rcases Did.touch_iff.1 ht.2 with hm | ⟨_,k⟩
      · exact (one.shown.mods N hm).2.1 (by
          cases ha : (X j).a.t.get N with
          | none => rfl
          | some x => have := one.view N x ha; rw [ih] at this; cases this)
      · rw [one.hi] at k; omega
    · exact ih
theorem heap_lay (N : Nat) : ∀ {j : Nat},j ≤ ops.size → (X j).st.t.get N = lay ((X 0).st.t.get N) (fun i => (X i).touch N) (fun i => (X i).b.t.get N) j
  | 0,_ => rfl
  | j + 1,hj => by
    rw [touch_step hX (by omega)]
    simp only [lay]
    rw [heap_lay N (j := j) (by omega)]
theorem tmps_lay (d : Nat) : ∀ {j : Nat},j ≤ ops.size → (X j).fr.tmps[d]? = ((X 0).fr.tmps[d]?).map fun t0 => lay t0 (fun i => dstOf ops i == some d) (fun i => (X i).v) j
  | 0,_ => by simp [lay]
  | j + 1,hj => by
    obtain ⟨o,g⟩ := hX j (by omega)
    rw [g.fr,get_put,tmps_lay d (j := j) (by omega)]
    have e : dstOf ops j = o.dst := by simp [dstOf,g.at_]
    by_cases h : o.dst = some d
    · rw [if_pos h]
      cases (X 0).fr.tmps[d]? with
      | none => rfl
      | some t0 => simp [lay,e,h]
    · rw [if_neg h]
      cases (X 0).fr.tmps[d]? with
      | none => rfl
      | some t0 => simp [lay,e,h]
theorem defers_same : ∀ {j : Nat},j ≤ ops.size → (X j).fr.defers = (X 0).fr.defers
  | 0,_ => rfl
  | j + 1,hj => by
    obtain ⟨o,g⟩ := hX j (by omega)
    rw [g.fr,put_defers,defers_same (j := j) (by omega)]
end
def Sep (x y : Tr) : Prop := ∀ N,(x.touch N = true → y.ran = true → y.a.t.get N = none) ∧ (y.touch N = true → x.ran = true → x.a.t.get N = none ∨ (x.did.kind = 4 ∧ N = x.did.blk ∧ x.did.again (y.b.t.get N) = true)) ∧ (x.touch N = true → y.touch N = false)
theorem sep {T : Tab} {rec : RunCode} {ops : Array Oper} {X : Nat → Tr} {bef : List Nat} (hX : ∀ j,j < ops.size → ∃ o,Good T rec ops X j o)
    (h0 : ∀ N,(X 0).st.next ≤ N → N < (X ops.size).st.next → (X 0).st.t.get N = none)
    (hP : ∀ k j,k < j → j < ops.size → (X k).ran = true → (X j).ran = true → (bef.getD j 0).testBit k = false → PairD (X k).did (X j).did (X j).a.t.get)
    {i j : Nat} (hij : i < j) (hj : j < ops.size) (hu : (bef.getD j 0).testBit i = false) : Sep (X i) (X j) := by
  intro N
  cases hi' : (X i).ran with
  | false => simp [Tr.touch,hi']
  | true =>
    cases hj' : (X j).ran with
    | false => simp [Tr.touch,hj']
    | true =>
      obtain ⟨oi,gi⟩ := hX i (by omega)
      obtain ⟨oj,gj⟩ := hX j hj
      have a := gi.one hi'
      have b := gj.one hj'
      have m1 := next_mono hX (i := i + 1) (j := j) (by omega) (by omega)
      have m2 := next_mono hX (i := i) (j := j) (by omega) (by omega)
      have m3 := next_mono hX (i := j + 1) (j := ops.size) (by omega) (Nat.le_refl _)
      have := (hP i j hij hj hi' hj' hu).apart a.shown b.shown (by rw [a.hi,b.lo]; exact m1) (fun M h1 h2 => by
        cases ha : (X i).a.t.get M with
        | none => rfl
        | some x =>
          have h3 := a.view M x ha
          rw [clean hX h0 (j := i) (by omega) M (by rw [b.lo] at h1; omega) (by rw [b.hi] at h2; omega)] at h3
          cases h3) N
      rw [b.post] at this
      simp only [Tr.touch,hi',hj',Bool.true_and,true_implies]
      exact this
def befFold (bef : List Nat) (l : List Edge) (s : Nat) : Nat := l.foldl (fun s e => if Region.binds .any e then s ||| 2 ^ e.on ||| bef.getD e.on 0 else s) s
theorem befFold_bit (bef : List Nat) : ∀ (l : List Edge) (s i : Nat),(befFold bef l s).testBit i = true → s.testBit i = true ∨ ∃ e ∈ l,Region.binds .any e = true ∧ (i = e.on ∨ (bef.getD e.on 0).testBit i = true)
  | [],s,i,h => .inl h
  | e :: l,s,i,h => by
    unfold befFold at h
    rw [List.foldl_cons] at h
    rcases befFold_bit bef l _ i h with h1 | ⟨e',h2,h3⟩
    · split at h1
      · rename_i hb
        rw [Nat.testBit_or,Nat.testBit_or,Nat.testBit_two_pow] at h1
        simp only [Bool.or_eq_true,decide_eq_true_eq] at h1
        rcases h1 with (h1 | h1) | h1
        · exact .inl h1
        · exact .inr ⟨e,List.mem_cons_self ..,hb,.inl h1.symm⟩
        · exact .inr ⟨e,List.mem_cons_self ..,hb,.inr h1⟩
      · exact .inl h1
    · exact .inr ⟨e',List.mem_cons_of_mem _ h2,h3⟩
def drawAt (ops : Array Oper) (bef : List Nat) (j : Nat) : Bool :=
  match ops[j]? with
  | none => false
  | some o => bef.getD j 0 == befFold bef o.after.toList 0 && o.after.toList.all (fun e => !Region.binds .any e || decide (e.on < j)) &&
    (List.range j).all fun i => (bef.getD j 0).testBit i || match ops[i]? with
      | some x => x.apart ops o
      | none => false
def drawStatic (ops : Array Oper) : Bool := (List.range ops.size).all (drawAt ops (befL [] ops.toList))
structure DrawOk (ops : Array Oper) (bef : List Nat) : Prop where
  bits : ∀ j o,ops[j]? = some o → ∀ i,(bef.getD j 0).testBit i = true → ∃ e ∈ o.after,Region.binds .any e = true ∧ (i = e.on ∨ (bef.getD e.on 0).testBit i = true)
  back : ∀ j o,ops[j]? = some o → ∀ e ∈ o.after,Region.binds .any e = true → e.on < j
  slots : ∀ i j x o,i < j → ops[i]? = some x → ops[j]? = some o → (bef.getD j 0).testBit i = false → x.apart ops o = true
theorem drawStatic_ok {ops : Array Oper} (h : drawStatic ops = true) : DrawOk ops (befL [] ops.toList) := by
  have key : ∀ j o,ops[j]? = some o → drawAt ops (befL [] ops.toList) j = true := fun j o ho =>
    List.all_eq_true.1 h j (List.mem_range.2 (Array.getElem?_eq_some_iff.1 ho).1)
  refine ⟨fun j o ho i hi => ?_,fun j o ho e he hb => ?_,fun i j x o hij hx ho hu => ?_⟩
  · have k := key j o ho
    simp only [drawAt,ho,Bool.and_eq_true,beq_iff_eq] at k
    rw [k.1.1] at hi
    rcases befFold_bit _ _ _ _ hi with h1 | ⟨e,h1,h2⟩
    · simp at h1
    · exact ⟨e,by simpa using h1,h2⟩
  · have k := key j o ho
    simp only [drawAt,ho,Bool.and_eq_true] at k
    have := List.all_eq_true.1 k.1.2 e (by simpa using he)
    simpa [hb] using this
  · have k := key j o ho
    simp only [drawAt,ho,Bool.and_eq_true] at k
    have := List.all_eq_true.1 k.2 i (List.mem_range.2 hij)
    simp only [hu,hx,Bool.false_or] at this
    exact this
end Go.Ev

/-
  EV, PART U: the steps of a region that draws its order.
-/
namespace Go.Ev
open Go Go.RowKit
section
variable {T : Tab} {P : Program} (hT : T.Ok P) {ok : Code → Prop} (hF : T.Fns P ok)
include hT hF
def heapS (X : Nat → Tr) (n : Nat) (S : Nat → Bool) (N : Nat) : Option Blk := lay ((X 0).st.t.get N) (fun i => S i && (X i).touch N) (fun i => (X i).b.t.get N) n
structure Mid (P : Program) (B : Base) (ops : Array Oper) (X : Nat → Tr) (cx : Ctx) (φ0 : Phi) (w0 : World) (S : Nat → Bool) (φ : Phi) (w : World) (fc : Frame) (tm : List Value) : Prop where
  rel : Rel φ B (heapS X ops.size S) w
  grows : Grows B φ0 φ (X 0).st.next (X ops.size).st.next
  keeps : KeepsB B w0 w
  fresh : ∀ j,j < ops.size → S j = false → (X j).ran = true → Fresh φ (X j).did.lo (X j).did.hi
  fr : FRel φ ⟨tm,(X 0).fr.defers⟩ cx fc
  tmps : ∀ d,tm[d]? = ((X 0).fr.tmps[d]?).map fun t0 => lay t0 (fun i => S i && dstOf ops i == some d) (fun i => (X i).v) ops.size
omit hT hF in
theorem getD_eq {l m : List Value} {t : Nat} (h : l[t]? = m[t]?) : l.getD t undef = m.getD t undef := by simp [List.getD,h]
omit hT hF in
theorem wanted_same {ops : Array Oper} {o : Oper} {l m : List Value} (h : ∀ t ∈ o.looksAt ops,l[t]? = m[t]?) : Region.wanted o (yieldedL ops l) = Region.wanted o (yieldedL ops m) := by
  unfold Region.wanted
  cases hg : o.guard with
  | none => rfl
  | some p =>
    obtain ⟨g,b⟩ := p
    simp only
    have : yieldedL ops l g = yieldedL ops m g := by
      unfold yieldedL
      cases hd : (ops[g]?).bind (·.dst) with
      | none => rfl
      | some d =>
        simp only [Option.bind_some]
        rw [h d (List.mem_append_right _ (by simp [hg,hd]))]
    rw [this]
theorem draw_step {rec : RunCode} (hC : CodeSim T P ok rec) (hLg : ∀ cx c fr,Logs (rec cx c fr)) {B : Base} (hBz : B.sz = P.cellsOf) (hBc : B.code = ok) {ops : Array Oper} (hops : opsOk T.globs ops = true) {bef : List Nat} (hD : DrawOk ops bef) (cs : List Frame) {cx : Ctx} {K : List Item}
    {X : Nat → Tr} (hX : ∀ j,j < ops.size → ∃ o,Good T rec ops X j o)
    (hP : ∀ k j,k < j → j < ops.size → (X k).ran = true → (X j).ran = true → (bef.getD j 0).testBit k = false → PairD (X k).did (X j).did (X j).a.t.get)
    {φ0 : Phi} {w0 : World} (hR0 : Rel φ0 B (X 0).st.t.get w0) (hf0 : Fresh φ0 (X 0).st.next (X ops.size).st.next) (hG0 : GRel φ0 T.globs)
    {S : Nat → Bool} {φ : Phi} {w : World} {fc : Frame} {tm : List Value} (M : Mid P B ops X cx φ0 w0 S φ w fc tm) {j : Nat} (hj : j < ops.size) (hS : S j = false)
    (hr : ∀ i,(bef.getD j 0).testBit i = true → S i = true) (hc : ∀ k,k < ops.size → S k = true → ∀ i,(bef.getD k 0).testBit i = true → S i = true)
    {rest : List Nat} (ht : fc.todo = .inRegion ops (j :: rest) :: K) :
    ∃ φ' w' fc' tm',Mid P B ops X cx φ0 w0 (fun i => S i || i == j) φ' w' fc' tm' ∧ Steps P (lone fc cs w) (lone fc' cs w') ∧ fc'.todo = .inRegion ops rest :: K := by
  have h0 : ∀ N,(X 0).st.next ≤ N → N < (X ops.size).st.next → (X 0).st.t.get N = none := fun N h1 h2 => by
    cases h : (X 0).st.t.get N with
    | none => rfl
    | some b =>
      obtain ⟨L,hL,_⟩ := hR0.blk N b h
      rw [hf0 N h1 h2] at hL; cases hL
  obtain ⟨o,g⟩ := hX j hj
  -- those that aren't ordered with this one
  have before : ∀ i,i < j → S i = false → (bef.getD j 0).testBit i = false := fun i _ h => by
    cases hb : (bef.getD j 0).testBit i with
    | false => rfl
    | true => rw [hr i hb] at h; cases h
  have after : ∀ i,i < ops.size → S i = true → (bef.getD i 0).testBit j = false := fun i hi h => by
    cases hb : (bef.getD i 0).testBit j with
    | false => rfl
    | true => rw [hc i hi h j hb] at hS; cases hS
  have slot : ∀ t,(t ∈ o.looksAt ops) → (X j).fr.tmps[t]? = tm[t]? := fun t htl => by
    rw [tmps_lay hX t (Nat.le_of_lt hj),M.tmps t]
    congr 1
    funext t0
    refine (lay_view (Nat.le_of_lt hj) fun i hi hτ => ?_).symm
    have hτ' : dstOf ops i = some t := by simpa using hτ
    obtain ⟨oi,gi⟩ := hX i hi
    have hd : oi.dst = some t := by simpa [dstOf,gi.at_] using hτ'
    constructor
    · intro hs
      rcases Nat.lt_trichotomy i j with h | h | h
      · exact h
      · subst h; rw [hS] at hs; cases hs
      · exact absurd htl ((Oper.apart_spec (hD.slots j i o oi h g.at_ gi.at_ (after i hi hs))).2.2 t hd)
    · intro h
      cases hs : S i with
      | true => rfl
      | false => exact absurd htl ((Oper.apart_spec (hD.slots i j oi o h gi.at_ g.at_ (before i h hs))).1 t hd)
  have hwant : Region.wanted o (yielded ops fc.tmps) = (X j).ran := by
    rw [g.ran,wanted_same slot,← yielded_rel (tmps := tm) M.fr.tmps ops]
  obtain ⟨hopk,hnd⟩ := opsOk_at hops g.at_
  -- the places,after it
  have tmps' : ∀ d,((Fr.mk tm (X 0).fr.defers).put o.dst (X j).v).tmps[d]? = ((X 0).fr.tmps[d]?).map fun t0 => lay t0 (fun i => (S i || i == j) && dstOf ops i == some d) (fun i => (X i).v) ops.size := fun d => by
    rw [get_put]
    simp only
    rw [M.tmps d]
    by_cases h : o.dst = some d
    · rw [if_pos h]
      have : dstOf ops j = some d := by simp [dstOf,g.at_,h]
      cases (X 0).fr.tmps[d]? with
      | none => rfl
      | some t0 =>
        simp only [Option.map_some]
        congr 1
        refine (lay_put (b0 := t0) (S := S) (val := fun i => (X i).v) (τ := fun i => dstOf ops i == some d) hj (by simp [this]) fun i h1 h2 h3 => ?_).symm
        obtain ⟨oi,gi⟩ := hX i h2
        have := (Oper.apart_spec (hD.slots j i o oi h1 g.at_ gi.at_ (after i h2 h3))).2.1 d h
        simpa [dstOf,gi.at_] using this
    · rw [if_neg h]
      have : (dstOf ops j == some d) = false := by simpa [dstOf,g.at_] using h
      cases (X 0).fr.tmps[d]? with
      | none => rfl
      | some t0 =>
        simp only [Option.map_some]
        congr 1
        exact (lay_other (τ := fun i => dstOf ops i == some d) this).symm
  have sepB : ∀ i,i < j → S i = false → Sep (X i) (X j) := fun i h1 h2 => sep hX h0 hP h1 hj (before i h1 h2)
  have sepA : ∀ i,j < i → i < ops.size → S i = true → Sep (X j) (X i) := fun i h1 h2 h3 => sep hX h0 hP h1 h2 (after i h2 h3)
  cases hran : (X j).ran with
  | false =>
    obtain ⟨hv,hst⟩ := g.skip hran
    obtain ⟨r1,r2⟩ := M.fr.finish ht g.at_ (φ := φ) (v := (X j).v) (v' := undef) (by rw [hv]; exact .undef)
    have hno : ∀ N,(X j).touch N = false := fun N => by simp [Tr.touch,hran]
    refine ⟨φ,w,fc.finish undef,_,⟨?_,M.grows,M.keeps,fun i hi hs hri => M.fresh i hi (by simp at hs; exact hs.1) hri,?_,tmps'⟩,Steps.one (st_opSkip M.fr.mode ht (by rw [g.at_]; simp [hwant,hran])),r2⟩
    · have : heapS X ops.size (fun i => S i || i == j) = heapS X ops.size S := by
        funext N
        exact lay_other (τ := fun i => (X i).touch N) (hno N)
      rw [this]; exact M.rel
    · have := r1
      rw [show (Fr.mk tm (X 0).fr.defers).put o.dst (X j).v = ⟨((Fr.mk tm (X 0).fr.defers).put o.dst (X j).v).tmps,(X 0).fr.defers⟩ by cases o.dst <;> rfl] at this
      exact this
  | true =>
    have one := g.one hran
    have hV' : ∀ N b,(X j).a.t.get N = some b → heapS X ops.size S N = some b ∨ ((X j).did.kind = 4 ∧ N = (X j).did.blk ∧ (X j).did.again (heapS X ops.size S N) = true) := fun N b hb => by
      have h1 := one.view N b hb
      rw [heap_lay hX N (Nat.le_of_lt hj)] at h1
      rcases lay_cases (b0 := (X 0).st.t.get N) (σ := fun i => S i && (X i).touch N) (val := fun i => (X i).b.t.get N) (Nat.le_of_lt hj) with ⟨i,k1,k2,k3,k4⟩ | k4
      · simp only [Bool.and_eq_true] at k3
        have hij : j < i := by
          rcases Nat.lt_or_eq_of_le k1 with h | h
          · exact h
          · subst h; rw [hS] at k3; cases k3.1
        have hh : heapS X ops.size S N = (X i).b.t.get N := k4
        rcases (sepA i hij k2 k3.1 N).2.1 k3.2 hran with h | h
        · rw [hb] at h; cases h
        · rw [hh]; exact .inr h
      · refine .inl ((show heapS X ops.size S N = _ from k4).trans ?_)
        rw [← h1]
        refine lay_congr fun i hi => ?_
        cases hτ : (X i).touch N with
        | false => simp
        | true =>
          cases hs : S i with
          | true => rfl
          | false => have := (sepB i hi hs N).1 hτ hran
                     rw [hb] at this; cases this
    -- what it is shown now
    obtain ⟨a2,b2,hrun2,ha2,hb2,hV,hoff2,hon2,heq2⟩ : ∃ a2 b2 : St,evOp T rec (X j).fr o a2 = some ((X j).v,b2) ∧ a2.next = (X j).did.lo ∧ b2.next = (X j).did.hi ∧ (∀ N b,a2.t.get N = some b → heapS X ops.size S N = some b) ∧
        (∀ N,(X j).touch N = false → b2.t.get N = a2.t.get N) ∧ (∀ N,(X j).touch N = true → a2.t.get N ≠ none ∨ ((X j).did.lo ≤ N ∧ N < (X j).did.hi)) ∧ (∀ N,(X j).touch N = true → b2.t.get N = (X j).b.t.get N) := by
      by_cases hall : ∀ N b,(X j).a.t.get N = some b → heapS X ops.size S N = some b
      · exact ⟨(X j).a,(X j).b,one.run,by rw [one.anext,one.lo],by rw [one.bnext,one.hi],hall,fun N hN => one.off N (by simpa [Tr.touch,hran] using hN),fun N hN => by
          have hN' : (X j).did.touch N = true := by simpa [Tr.touch,hran] using hN
          rcases Did.touch_iff.1 hN' with hm | hm
          · exact .inl (one.shown.mods N hm).2.1
          · exact .inr hm,fun N _ => rfl⟩
      · have : ∃ N,(X j).did.kind = 4 ∧ N = (X j).did.blk ∧ (X j).did.again (heapS X ops.size S N) = true := by
          false_or_by_contra
          rename_i hno
          exact hall fun N b hb => (hV' N b hb).resolve_right fun h => hno ⟨N,h⟩
        obtain ⟨N0,h4,rfl,hag⟩ := this
        have hno : ∀ N,(X j).touch N = false := fun N => by
          have : (X j).did.touch N = false := by
            cases hx : (X j).did.touch N with
            | false => rfl
            | true =>
              exfalso
              rcases Did.touch_iff.1 hx with hm | hm
              · have := (one.shown.mods N hm).2.2; omega
              · have := one.shown.four h4; omega
          simp [Tr.touch,hran,this]
        refine ⟨_,_,one.late h4 _ hag,by simp only; rw [one.anext,one.lo],by simp only; rw [one.anext,← one.shown.four h4,one.lo],fun N b hb => ?_,fun N _ => rfl,fun N hN => (by rw [hno N] at hN; cases hN),fun N hN => (by rw [hno N] at hN; cases hN)⟩
        simp only [Tree.get_set] at hb
        split at hb
        · rename_i e; rw [e]; exact hb
        · rw [Tree.get_leaf] at hb; cases hb
    have hR2 := M.rel.narrow hV
    have hfj := M.fresh j hj hS hran
    have hfa : Fresh φ a2.next b2.next := by rw [ha2,hb2]; exact hfj
    obtain ⟨φ',w',v',q1,q2,q3⟩ := sim_op hT hF hC hLg (B := B.more (Aside φ (heapS X ops.size S) a2.t.get)) hBz hBc hR2 hfa (hG0.mono M.grows.1) hrun2 cs M.fr.mode ht g.at_ (by rw [hwant,hran]) (fun x hx => by
      have e1 := eval_rel (ds := (X 0).fr.defers) M.fr.tmps (hG0.mono M.grows.1) (List.all_eq_true.1 hopk x hx)
      have e2 : (X j).fr.eval x = (Fr.mk tm (X 0).fr.defers).eval x := by
        cases x with
        | tmp t => exact getD_eq (slot t (List.mem_append_left _ (List.mem_filterMap.2 ⟨.tmp t,hx,rfl⟩)))
        | const v => rfl
        | global k => rfl
        | func k => rfl
      rw [e2]; exact e1) hnd
    have hgr : Grows (B.more (Aside φ (heapS X ops.size S) a2.t.get)) φ φ' (X j).did.lo (X j).did.hi := by
      have := q1.grows
      rw [ha2,hb2] at this
      exact this
    obtain ⟨u1,u2,u3⟩ := M.rel.widen hV q1.rel hgr q1.keeps hfj (τ := fun N => (X j).touch N) hoff2 (fun N hN _ => hon2 N hN)
    obtain ⟨r1,r2⟩ := (M.fr.mono u2.1).finish ht g.at_ q2
    have m1 := next_mono hX (i := 0) (j := j) (by omega) (by omega)
    have m2 := next_mono hX (i := j + 1) (j := ops.size) (by omega) (Nat.le_refl _)
    refine ⟨φ',w',fc.finish v',_,⟨?_,?_,M.keeps.trans u3,fun i hi hs hri => ?_,?_,tmps'⟩,q3,r2⟩
    · have : heapS X ops.size (fun i => S i || i == j) = fun N => if (X j).touch N = true then b2.t.get N else heapS X ops.size S N := by
        funext N
        by_cases htN : (X j).touch N = true
        · rw [if_pos htN,heq2 N htN]
          exact lay_put (τ := fun i => (X i).touch N) hj htN fun i h1 h2 h3 => (sepA i h1 h2 h3 N).2.2 htN
        · rw [if_neg htN]
          exact lay_other (τ := fun i => (X i).touch N) (by simpa using htN)
      rw [this]; exact u1
    · refine ⟨M.grows.1.trans u2.1,fun N hN => ?_,fun N L hL => ?_⟩
      · rcases u2.2.1 N hN with h | ⟨h1,h2⟩
        · exact M.grows.2.1 N h
        · rw [one.lo] at h1; rw [one.hi] at h2; exact .inr ⟨by omega,by omega⟩
      · rcases u2.2.2 N L hL with h | h
        · exact M.grows.2.2 N L h
        · exact .inr h
    · simp only [Bool.or_eq_false_iff] at hs
      have hne : i ≠ j := by have := hs.2; simpa using this
      intro N h1 h2
      cases hn : φ' N with
      | none => rfl
      | some L =>
        exfalso
        rcases u2.2.1 N (by rw [hn]; simp) with h3 | ⟨h3,h4⟩
        · exact h3 (M.fresh i hi hs.1 hri N h1 h2)
        · obtain ⟨oi,gi⟩ := hX i hi
          have onei := gi.one hri
          rw [onei.lo] at h1; rw [onei.hi] at h2; rw [one.lo] at h3; rw [one.hi] at h4
          rcases Nat.lt_or_gt_of_ne hne with h | h
          · have := next_mono hX (i := i + 1) (j := j) (by omega) (by omega); omega
          · have := next_mono hX (i := j + 1) (j := i) (by omega) (by omega); omega
    · have := r1
      rw [show (Fr.mk tm (X 0).fr.defers).put o.dst (X j).v = ⟨((Fr.mk tm (X 0).fr.defers).put o.dst (X j).v).tmps,(X 0).fr.defers⟩ by cases o.dst <;> rfl] at this
      exact this
end
end Go.Ev

/-
  EV, PART V: a region that draws its order, carried out.
-/
namespace Go.Ev
open Go Go.RowKit
def left (S : Nat → Bool) : Nat → Nat
  | 0 => 0
  | n + 1 => left S n + if S n = true then 0 else 1
theorem left_same {S S' : Nat → Bool} : ∀ {n : Nat},(∀ i,i < n → S i = S' i) → left S n = left S' n
  | 0,_ => rfl
  | n + 1,h => by simp only [left]; rw [left_same fun i hi => h i (by omega),h n (by omega)]
theorem left_put {S : Nat → Bool} {j : Nat} (hS : S j = false) : ∀ {n : Nat},j < n → left S n = left (fun i => S i || i == j) n + 1
  | 0,h => by omega
  | n + 1,h => by
    by_cases e : j = n
    · subst e
      have h1 : left S j = left (fun i => S i || i == j) j := left_same fun i hi => by
        have e : (i == j) = false := by simp; omega
        rw [e,Bool.or_false]
      simp only [left,hS,h1]
      simp
    · have e' : (n == j) = false := by simp; omega
      simp only [left,e',Bool.or_false]
      rw [left_put hS (n := n) (by omega)]
      omega
theorem left_zero {S : Nat → Bool} : ∀ {n : Nat},left S n = 0 → ∀ j,j < n → S j = true
  | 0,_,j,hj => by omega
  | n + 1,h,j,hj => by
    simp only [left] at h
    by_cases e : j = n
    · subst e
      cases hs : S j with
      | true => rfl
      | false => rw [hs] at h; simp at h
    · exact left_zero (n := n) (by omega) j (by omega)
theorem left_some {S : Nat → Bool} : ∀ {n : Nat},left S n ≠ 0 → ∃ j,j < n ∧ S j = false ∧ ∀ i,i < j → S i = true
  | 0,h => absurd rfl h
  | n + 1,h => by
    by_cases h0 : left S n = 0
    · refine ⟨n,Nat.lt_succ_self _,?_,left_zero h0⟩
      cases hs : S n with
      | false => rfl
      | true => simp only [left,hs,h0] at h; simp at h
    · obtain ⟨j,h1,h2,h3⟩ := left_some h0
      exact ⟨j,by omega,h2,h3⟩
theorem getD_set_all {l : Array Bool} {j : Nat} (i : Nat) : (l.setIfInBounds j true).getD i true = (l.getD i true || i == j) := by
  simp only [Array.getD_eq_getD_getElem?,Array.getElem?_setIfInBounds]
  by_cases e : j = i
  · subst e
    simp only [if_true,beq_self_eq_true,Bool.or_true]
    split <;> rfl
  · have : (i == j) = false := by simp; omega
    rw [if_neg e,this,Bool.or_false]
section
variable {T : Tab} {P : Program} (hT : T.Ok P) {ok : Code → Prop} (hF : T.Fns P ok)
include hT hF
theorem draw_go {rec : RunCode} (hC : CodeSim T P ok rec) (hLg : ∀ cx c fr,Logs (rec cx c fr)) {B : Base} (hBz : B.sz = P.cellsOf) (hBc : B.code = ok) {ops : Array Oper} (hops : opsOk T.globs ops = true) {bef : List Nat} (hD : DrawOk ops bef) (cs : List Frame) {cx : Ctx} {K : List Item}
    {X : Nat → Tr} (hX : ∀ j,j < ops.size → ∃ o,Good T rec ops X j o)
    (hP : ∀ k j,k < j → j < ops.size → (X k).ran = true → (X j).ran = true → (bef.getD j 0).testBit k = false → PairD (X k).did (X j).did (X j).a.t.get)
    {φ0 : Phi} {w0 : World} (hR0 : Rel φ0 B (X 0).st.t.get w0) (hf0 : Fresh φ0 (X 0).st.next (X ops.size).st.next) (hG0 : GRel φ0 T.globs) :
    ∀ (fuel t : Nat) (listed : Array Bool) (S : Nat → Bool) (φ : Phi) (w : World) (fc : Frame) (tm : List Value),(∀ i,listed.getD i true = S i) → left S ops.size = fuel → Mid P B ops X cx φ0 w0 S φ w fc tm →
      (∀ k,k < ops.size → S k = true → ∀ i,(bef.getD k 0).testBit i = true → S i = true) → fc.todo = .inRegion ops (Region.linearise.go .any ops fuel t listed []) :: K →
      ∃ S' φ' w' fc' tm',(∀ j,j < ops.size → S' j = true) ∧ Mid P B ops X cx φ0 w0 S' φ' w' fc' tm' ∧ Steps P (lone fc cs w) (lone fc' cs w') ∧ fc'.todo = .inRegion ops [] :: K
  | 0,t,listed,S,φ,w,fc,tm,hl,hn,M,hc,ht => ⟨S,φ,w,fc,tm,left_zero hn,M,Steps.refl _ _,ht⟩
  | fuel + 1,t,listed,S,φ,w,fc,tm,hl,hn,M,hc,ht => by
    obtain ⟨j0,h1,h2,h3⟩ := left_some (S := S) (n := ops.size) (by omega)
    have inb : ∀ i,i < ops.size → S i = false → ∃ o,ops[i]? = some o := fun i hi _ => ⟨ops[i],by simp [hi]⟩
    have lt_listed : ∀ i,S i = false → i < listed.size := fun i h => by
      rcases Nat.lt_or_ge i listed.size with h4 | h4
      · exact h4
      · rw [← hl i,Array.getD_eq_getD_getElem?,Array.getElem?_eq_none h4] at h; cases h
    have hready : j0 ∈ Region.ready .any ops listed := by
      obtain ⟨o,ho⟩ := inb j0 h1 h2
      refine mem_ready.2 ⟨(hl j0).trans h2,o,ho,fun e he hb => ?_⟩
      have hlt := hD.back j0 o ho e he hb
      have h5 := h3 e.on hlt
      have h6 := lt_listed j0 h2
      rw [← hl e.on] at h5
      rw [Array.getD_eq_getD_getElem?,Array.getElem?_eq_getElem (by omega)] at h5 ⊢
      exact h5
    simp only [Region.linearise.go] at ht
    change fc.todo = .inRegion ops (match (Region.ready .any ops listed)[t % (Region.ready .any ops listed).length]? with
      | some i => Region.linearise.go .any ops fuel (t / (Region.ready .any ops listed).length) (listed.setIfInBounds i true) [i]
      | none => [].reverse) :: K at ht
    have hpos : 0 < (Region.ready .any ops listed).length := List.length_pos_of_mem hready
    obtain ⟨i,hi⟩ : ∃ i,(Region.ready .any ops listed)[t % (Region.ready .any ops listed).length]? = some i := ⟨_,List.getElem?_eq_getElem (Nat.mod_lt _ hpos)⟩
    rw [hi] at ht
    simp only at ht
    rw [linearise_go_acc,List.reverse_singleton,List.singleton_append] at ht
    obtain ⟨hun,o,ho,hall⟩ := mem_ready.1 (List.mem_of_getElem? hi)
    have hin : i < ops.size := (Array.getElem?_eq_some_iff.1 ho).1
    have hSi : S i = false := (hl i).symm.trans hun
    have hr : ∀ k,(bef.getD i 0).testBit k = true → S k = true := fun k hk => by
      obtain ⟨e,he,hb,h5⟩ := hD.bits i o ho k hk
      have h6 : S e.on = true := by
        have := hall e he hb
        rw [← hl e.on]
        rw [Array.getD_eq_getD_getElem?] at this ⊢
        cases hx : listed[e.on]? with
        | none => rfl
        | some b => rw [hx] at this; exact this
      rcases h5 with rfl | h5
      · exact h6
      · exact hc e.on (by have := hD.back i o ho e he hb; omega) h6 k h5
    obtain ⟨φ1,w1,fc1,tm1,q1,q2,q3⟩ := draw_step hT hF hC hLg hBz hBc hops hD cs hX hP hR0 hf0 hG0 M hin hSi hr hc ht
    obtain ⟨S',φ',w',fc',tm',r1,r2,r3,r4⟩ := draw_go hC hLg hBz hBc hops hD cs hX hP hR0 hf0 hG0 fuel _ (listed.setIfInBounds i true) (fun k => S k || k == i) φ1 w1 fc1 tm1 (fun k => by rw [getD_set_all,hl k]) (by
      have := left_put hSi hin; omega) q1 (fun k hk hs m hm => by
        simp only [Bool.or_eq_true,beq_iff_eq] at hs ⊢
        rcases hs with hs | rfl
        · exact .inl (hc k hk hs m hm)
        · exact .inl (hr m hm)) q3
    exact ⟨S',φ',w',fc',tm',r1,r2,q2.trans r3,r4⟩
theorem sim_draw {rec : RunCode} (hC : CodeSim T P ok rec) (hLg : ∀ cx c fr,Logs (rec cx c fr)) {B : Base} (hBz : B.sz = P.cellsOf) (hBc : B.code = ok) {ops : Array Oper} (hops : opsOk T.globs ops = true) (hst : drawStatic ops = true) (cs : List Frame) {cx : Ctx} {K : List Item}
    {fr fr' : Fr} {s s' : St} (h : evDraw T rec ops (befL [] ops.toList) 0 ops.toList [] fr s = some (fr',s')) {φ : Phi} {w : World} (hR : Rel φ B s.t.get w) (hf : Fresh φ s.next s'.next) (hG : GRel φ T.globs) {fc : Frame} (hfr : FRel φ fr cx fc) {t : Nat}
    (ht : fc.todo = .inRegion ops (Region.linearise .any ops t) :: K) :
    ∃ φ' w' fc',Aft P B φ s w φ' s' w' ∧ FRel φ' fr' cx fc' ∧ Steps P (lone fc cs w) (lone fc' cs w') ∧ fc'.todo = K := by
  obtain ⟨X,x1,x2,x3,x4,hX',_,hP'⟩ := evDraw_trace hLg ops.toList 0 [] fr fr' s s' (by simp) (Nat.zero_le _) h
  have hX : ∀ j,j < ops.size → ∃ o,Good T rec ops X j o := fun j hj => hX' j (Nat.zero_le _) hj
  have hP : ∀ k j,k < j → j < ops.size → (X k).ran = true → (X j).ran = true → ((befL [] ops.toList).getD j 0).testBit k = false → PairD (X k).did (X j).did (X j).a.t.get := fun k j => hP' k j (Nat.zero_le _)
  subst x1 x2 x3 x4
  have lay0 : ∀ {β : Type} (b0 : β) (τ : Nat → Bool) (val : Nat → β) (n : Nat),lay b0 (fun i => (fun _ => false) i && τ i) val n = b0 := fun b0 τ val n => by
    rw [lay_skip (j := 0) (Nat.zero_le _) fun i _ _ => by simp]; rfl
  let S0 : Nat → Bool := fun i => (Array.replicate ops.size false).getD i true
  have hS0 : ∀ i,i < ops.size → S0 i = false := fun i hi => by
    show (Array.replicate ops.size false).getD i true = false
    rw [Array.getD_eq_getD_getElem?,Array.getElem?_replicate,if_pos hi]; rfl
  have layS : ∀ {β : Type} (b0 : β) (τ : Nat → Bool) (val : Nat → β),lay b0 (fun i => S0 i && τ i) val ops.size = b0 := fun b0 τ val => by
    rw [lay_skip (j := 0) (Nat.zero_le _) fun i _ hi => by rw [hS0 i hi]; rfl]; rfl
  have hcnt : ∀ n,n ≤ ops.size → left S0 n = n := fun n => by
    induction n with
    | zero => intro _; rfl
    | succ n ih => intro hn; simp only [left]; rw [ih (by omega),hS0 n (by omega)]; simp
  have M0 : Mid P B ops X cx φ w S0 φ w fc (X 0).fr.tmps := by
    refine ⟨?_,.refl _ _ _,.refl _ _,fun j hj _ hran N h1 h2 => ?_,hfr,fun d => ?_⟩
    · have : heapS X ops.size S0 = (X 0).st.t.get := by funext N; exact layS _ _ _
      rw [this]; exact hR
    · obtain ⟨o,g⟩ := hX j hj
      have one := g.one hran
      have m1 := next_mono hX (i := 0) (j := j) (by omega) (by omega)
      have m2 := next_mono hX (i := j + 1) (j := ops.size) (by omega) (Nat.le_refl _)
      rw [one.lo] at h1; rw [one.hi] at h2
      exact hf N (by omega) (by omega)
    · cases (X 0).fr.tmps[d]? with
      | none => rfl
      | some t0 => simp only [Option.map_some]; rw [layS]
  obtain ⟨S',φ',w',fc',tm',r1,r2,r3,r4⟩ := draw_go hT hF hC hLg hBz hBc hops (drawStatic_ok hst) cs hX hP hR hf hG ops.size t (Array.replicate ops.size false) S0 φ w fc (X 0).fr.tmps (fun i => rfl) (hcnt _ (Nat.le_refl _)) M0 (fun k hk hs => by
    rw [hS0 k hk] at hs; cases hs) ht
  have full : ∀ {β : Type} (b0 : β) (τ : Nat → Bool) (val : Nat → β),lay b0 (fun i => S' i && τ i) val ops.size = lay b0 τ val ops.size := fun b0 τ val => lay_congr fun i hi => by rw [r1 i hi]; rfl
  refine ⟨φ',w',{ fc' with todo := K },⟨next_mono hX (Nat.zero_le _) (Nat.le_refl _),r2.grows,?_,r2.keeps⟩,?_,r3.trans (Steps.one (st_regionEnd r2.fr.mode r4)),rfl⟩
  · have : heapS X ops.size S' = (X ops.size).st.t.get := by
      funext N
      rw [heap_lay hX N (Nat.le_refl _)]
      exact full _ _ _
    rw [← this]; exact r2.rel
  · have e : tm' = (X ops.size).fr.tmps := by
      apply List.ext_getElem?
      intro d
      rw [r2.tmps d,tmps_lay hX d (Nat.le_refl _)]
      congr 1
      funext t0
      exact full _ _ _
    have := r2.fr.todo K
    rw [e,← defers_same hX (Nat.le_refl _)] at this
    exact this
end
end Go.Ev

/-
  EV, PART W: code: what the evaluator finds, the machine does.
-/
namespace Go.Ev
open Go Go.RowKit
def codeOk (G : Nat) : Code → Bool
  | .skip | .exit _ | .ret => true
  | .region _ ops draw => opsOk G ops && (!draw || drawStatic ops)
  | .seq a b => codeOk G a && codeOk G b
  | .cond c a b => operandOk G c && (codeOk G a && codeOk G b)
  | .block _ b | .loop b => codeOk G b
  | .rangeFunc f _ a b => operandOk G f && (codeOk G a && codeOk G b)
  | _ => true
section
variable {P : Program} {fc : Frame} {cs : List Frame} {w w' : World} {k : List Item}
theorem st_enterLoop {f : Operand} {params : Array Tmp} {assign body : Code} {l : Nat} {mark : List Deferred} (hm : fc.mode = .run) (ht : fc.todo = .code (.rangeFunc f params assign body) :: k)
    (he : (Instr.enterLoop fc.fn fc.tmps params assign body fc.roundOf).run P w = .ok (l,mark) w') :
    (stepG P true { frame := fc,callers := cs,status := .running,dying := none } w).bare =
      (stepG.apply P true { fc with todo := .inRangeFunc l :: k,defers := mark ++ fc.defers } cs none (do let d ← Deferred.ofValue (fc.eval f) ⟨[.func (.yield l) #[] #[]]⟩; invoke d.target d.args) w').bare := by
  cases fc with
  | mk fn tmps todo defers mode kind roundOf =>
    simp only at hm ht he
    subst hm ht
    simp only [stepG,stepG.exec,Sem.runT_eq,he,GStep.bare_after]
    have e : (Frame.mk fn tmps (.inRangeFunc l :: k) (mark ++ defers) .run kind roundOf).eval f = (Frame.mk fn tmps (.code (.rangeFunc f params assign body) :: k) defers .run kind roundOf).eval f := by cases f <;> rfl
    have e2 : (#[Operand.const (Value.func (Fn.yield l) #[] #[])] : Array Operand).map (Frame.mk fn tmps (.inRangeFunc l :: k) (mark ++ defers) .run kind roundOf).eval = ⟨[.func (.yield l) #[] #[]]⟩ := by
      apply Array.ext'
      simp [Frame.eval]
    simp only [resolve,e,e2]
end
theorem Logs.deferBlock (cx : Ctx) (fr : Fr) : Logs (Ev.deferBlock cx fr) := by
  unfold Ev.deferBlock
  split
  · exact .bnd (.getLoop _) fun _ => .ret _
  · exact .bnd (.newB _) fun _ => .ret _
theorem Logs.endLoop (l : Nat) (fr : Fr) : Logs (Ev.endLoop l fr) := by
  unfold Ev.endLoop
  refine .bnd (.getLoop _) fun r => .ite .fail (.bnd (.setB _ _) fun _ => ?_)
  split
  · exact .ret _
  · exact .ret _
  · exact .ret _
  · exact .fail
theorem Logs.drawOne {T : Tab} {rec : RunCode} (hLg : ∀ cx c fr,Logs (rec cx c fr)) (bits : Nat) (ds : List (Nat × Did)) (fr : Fr) (o : Oper) : Logs (Ev.drawOne T rec bits ds fr o) := fun s p s' h => by
  obtain ⟨v,d⟩ := p
  obtain ⟨a,b,g⟩ := drawOne_some hLg h
  have hm : s'.mods = d.mods ++ s.mods := by
    unfold Ev.drawOne at h
    split at h
    · cases h
    · split at h
      · simp only [Option.some.injEq,Prod.mk.injEq] at h
        obtain ⟨⟨rfl,rfl⟩,rfl⟩ := h
        rfl
      · cases h
  refine ⟨by rw [← g.lo,← g.hi]; exact g.shown.le,d.mods,hm,fun N hN => ?_⟩
  rw [g.heap N] at hN
  by_cases ht : d.touch N = true
  · rcases Did.touch_iff.1 ht with h1 | h1
    · exact .inl h1
    · rw [g.lo,g.hi] at h1; exact .inr h1
  · rw [if_neg ht] at hN; exact absurd rfl hN
theorem Logs.evDraw {T : Tab} {rec : RunCode} (hLg : ∀ cx c fr,Logs (rec cx c fr)) (ops : Array Oper) (bef : List Nat) : ∀ (os : List Oper) (i : Nat) (ds : List (Nat × Did)) (fr : Fr),Logs (Ev.evDraw T rec ops bef i os ds fr)
  | [],i,ds,fr => .ret _
  | o :: os,i,ds,fr => by
    unfold Ev.evDraw
    split
    · exact .bnd (.drawOne hLg _ _ _ _) fun _ => Logs.evDraw hLg ops bef os _ _ _
    · exact Logs.evDraw hLg ops bef os _ _ _
theorem Logs.evCode {T : Tab} : ∀ (k : Nat) (cx : Ctx) (c : Code) (fr : Fr),Logs (Ev.evCode T k cx c fr)
  | 0,cx,c,fr => .fail
  | k + 1,cx,c,fr => by
    have ih := fun cx c fr => Logs.evCode (T := T) k cx c fr
    unfold Ev.evCode
    split
    · exact .ret _
    · refine .bnd ?_ fun _ => .ret _
      unfold Ev.evRegion
      split
      · exact .evDraw ih _ _ _ _ _ _
      · exact .evOps ih _ _ _
    · refine .bnd (ih _ _ _) fun p => ?_
      split
      · exact ih _ _ _
      · exact .ret _
    · split
      · exact ih _ _ _
      · exact .fail
    · exact .bnd (ih _ _ _) fun _ => .ret _
    · refine .bnd (ih _ _ _) fun p => ?_
      split
      · exact ih _ _ _
      · exact .ret _
    · exact .ret _
    · exact .ret _
    · exact .bnd (.deferBlock _ _) fun _ => .bnd (.newB _) fun _ => .bnd (.callValue ih _ _) fun _ => .endLoop _ _
    · exact .fail
section
variable {T : Tab} {P : Program} (hT : T.Ok P) (hF : T.Fns P fun c => codeOk T.globs c = true) (hmix : P.follows .mixedOrders = true)
include hT hF hmix
def LoopSim (T : Tab) (P : Program) (ok : Code → Prop) (rec : RunCode) : Prop :=
  ∀ cx b fr s e fr' s',rec cx (.loop b) fr s = some ((e,fr'),s') → ok (.loop b) → ∀ (φ : Phi) (B : Base) (w : World) (fc : Frame) (cs : List Frame) (K : List Item),B.sz = P.cellsOf → B.code = ok → Rel φ B s.t.get w → Fresh φ s.next s'.next → GRel φ T.globs →
    FRel φ fr cx fc → fc.todo = .code b :: .inLoop b :: K →
    ∃ φ' w' fc',Aft P B φ s w φ' s' w' ∧ FRel φ' fr' cx fc' ∧ Steps P (lone fc cs w) (lone fc' cs w') ∧ Left e K fc'.todo
omit hT hF hmix in
theorem Left.skip {e : Ex} {it : Item} {K todo : List Item} (h : Left e (it :: K) todo) (he : e ≠ .normal) (hit : ∀ id,it ≠ .inBlock id) : Left e K todo := by
  cases e with
  | normal => exact absurd rfl he
  | ret => exact h
  | exit id =>
    obtain ⟨K',h1,h2⟩ := h
    refine ⟨K',h1,h2.trans ?_⟩
    cases it <;> first
      | rfl
      | exact absurd rfl (hit _)
theorem sim_rangeFunc {rec : RunCode} (hC : CodeSim T P (fun c => codeOk T.globs c = true) rec) (hLg : ∀ cx c fr,Logs (rec cx c fr)) {cx : Ctx} {f : Operand} {params : Array Tmp} {assign body : Code} {fr : Fr} {s : St} {e : Ex} {fr' : Fr} {s' : St}
    (h : (bnd (deferBlock cx fr) fun q => bnd (newB (.obj (.loop { state := .ready,pending := none,fn := cx.fn,tmps := ⟨fr.tmps⟩,params,assign,body,defers := q.1 }))) fun l =>
      bnd (callValue T rec (fr.eval f) [.func (.yield l) #[] #[]]) fun _ => endLoop l { fr with defers := q.2 }) s = some ((e,fr'),s'))
    (hok : codeOk T.globs (.rangeFunc f params assign body) = true) {φ : Phi} {B : Base} {w : World} {fc : Frame} (cs : List Frame) {K : List Item} (hBz : B.sz = P.cellsOf) (hBc : B.code = fun c => codeOk T.globs c = true) (hR : Rel φ B s.t.get w) (hf : Fresh φ s.next s'.next) (hG : GRel φ T.globs)
    (hfr : FRel φ fr cx fc) (ht : fc.todo = .code (.rangeFunc f params assign body) :: K) :
    ∃ φ' w' fc',Aft P B φ s w φ' s' w' ∧ FRel φ' fr' cx fc' ∧ Steps P (lone fc cs w) (lone fc' cs w') ∧ Left e K fc'.todo := by
  have _ := hmix
  simp only [codeOk,Bool.and_eq_true] at hok
  obtain ⟨hof,hoa,hob⟩ := hok
  obtain ⟨q,s1,h1,h2⟩ := bnd_some h
  obtain ⟨l,s2,h3,h4⟩ := bnd_some h2
  obtain ⟨u,s3,h5,h6⟩ := bnd_some h4
  have n1 := (Logs.deferBlock cx fr _ _ _ h1).1
  have n2 := (Logs.newB _ _ _ _ h3).1
  have n3 := (Logs.callValue hLg _ _ _ _ _ h5).1
  have n4 := (Logs.endLoop _ _ _ _ _ h6).1
  -- the block for deferred calls
  have A : ∃ φ1 w1 d' mark,Aft P B φ s w φ1 s1 w1 ∧ (∃ L,φ1 q.1 = some L ∧ L.blk = d') ∧ DRel φ1 q.2 (mark ++ fc.defers) ∧
      ∀ r : Nat → Loop,(Instr.enterLoop fc.fn fc.tmps params assign body fc.roundOf).run P w = (do pure (← newObj (.loop { state := .ready,pending := none,fn := fc.fn,tmps := fc.tmps,params,assign,body,defers := d' }),mark) : Sem (Nat × List Deferred)).run P w1 := by
    unfold deferBlock at h1
    have hro := hfr.round
    cases hcr : cx.round with
    | some l0 =>
      rw [hcr] at h1 hro
      obtain ⟨r,s9,k1,k2⟩ := bnd_some h1
      obtain ⟨hl,rfl⟩ := getLoop_some k1
      obtain ⟨rfl,rfl⟩ := ret_some k2
      cases hfo : fc.roundOf with
      | none => rw [hfo] at hro; exact hro.elim
      | some l0' =>
        rw [hfo] at hro
        obtain ⟨L0,m1,m2⟩ := hro
        obtain ⟨L,r',hL,hw,_,_,hO⟩ := loop_of hR hl
        rw [m1] at hL; cases hL
        obtain ⟨_,_,_,_,_,_,_,o8,_,_⟩ := hO
        refine ⟨φ,w,r'.defers,[],.refl hR,o8,hfr.defers,fun _ => ?_⟩
        rw [← m2]
        simp [Instr.enterLoop,run_getLoop hw]
    | none =>
      rw [hcr] at h1 hro
      obtain ⟨d,s9,k1,k2⟩ := bnd_some h1
      obtain ⟨rfl,rfl⟩ := newB_some k1
      obtain ⟨rfl,rfl⟩ := ret_some k2
      cases hfo : fc.roundOf with
      | some l0' => rw [hfo] at hro; exact hro.elim
      | none =>
        have hn : φ s.next = none := hf _ (Nat.le_refl _) (by simp only at n2 n3 n4; omega)
        have hRn := hR.new hn (.obj (.deferred (some []))) (.deferred (some [])) ⟨w.heap.size,0,0⟩ rfl ⟨_,heap_alloc_new _ _,trivial,hR.newOk,rfl⟩
        refine ⟨φ.add s.next ⟨w.heap.size,0,0⟩,w.alloc (.deferred (some [])),w.heap.size,[{ target := .collected w.heap.size,args := #[] }],⟨Nat.le_succ _,.add _ hn hR.newOk,by simp only; rw [get_upd]; exact hRn,(Keeps.alloc φ _ w _).weak hR⟩,⟨_,Phi.add_same _ _ _,rfl⟩,?_,fun _ => ?_⟩
        · exact .cons (L := ⟨w.heap.size,0,0⟩) (Phi.add_same _ _ _) (hfr.defers.mono (Phi.le_add _ hn))
        · simp [Instr.enterLoop]
  obtain ⟨φ1,w1,d',mark,a1,a2,a3,a4⟩ := A
  obtain ⟨rfl,rfl⟩ := newB_some h3
  have hf1 := a1.fresh hf
  have hn1 : φ1 s1.next = none := hf1 _ (Nat.le_refl _) (by simp only at n3 n4; omega)
  have hle := Phi.le_add (φ := φ1) (n := s1.next) ⟨w1.heap.size,0,0⟩ hn1
  have hO : ORel B.code (φ1.add s1.next ⟨w1.heap.size,0,0⟩) (.loop { state := .ready,pending := none,fn := cx.fn,tmps := ⟨fr.tmps⟩,params,assign,body,defers := q.1 }) (.loop { state := .ready,pending := none,fn := fc.fn,tmps := fc.tmps,params,assign,body,defers := d' }) := by
    obtain ⟨L,m1,m2⟩ := a2
    refine ⟨rfl,rfl,hfr.fn.symm,(hfr.tmps.mono a1.grows.1).mono hle,rfl,rfl,rfl,⟨L,hle _ _ m1,m2⟩,?_,?_⟩
    · rw [hBc]; exact hoa
    · rw [hBc]; exact hob
  have hRn := a1.rel.new hn1 (.obj (.loop { state := .ready,pending := none,fn := cx.fn,tmps := ⟨fr.tmps⟩,params,assign,body,defers := q.1 })) (.loop { state := .ready,pending := none,fn := fc.fn,tmps := fc.tmps,params,assign,body,defers := d' }) ⟨w1.heap.size,0,0⟩ rfl ⟨_,heap_alloc_new _ _,hO,a1.rel.newOk,rfl⟩
  have a5 : Aft P B φ1 s1 w1 (φ1.add s1.next ⟨w1.heap.size,0,0⟩) { s1 with t := s1.t.set s1.next (some (.obj (.loop { state := .ready,pending := none,fn := cx.fn,tmps := ⟨fr.tmps⟩,params,assign,body,defers := q.1 }))),next := s1.next + 1 }
      (w1.alloc (.loop { state := .ready,pending := none,fn := fc.fn,tmps := fc.tmps,params,assign,body,defers := d' })) :=
    ⟨Nat.le_succ _,.add _ hn1 a1.rel.newOk,by simp only; rw [get_upd]; exact hRn,(Keeps.alloc φ1 _ w1 _).weak a1.rel⟩
  have a6 := a1.trans a5
  have hrun : (Instr.enterLoop fc.fn fc.tmps params assign body fc.roundOf).run P w = .ok (w1.heap.size,mark) (w1.alloc (.loop { state := .ready,pending := none,fn := fc.fn,tmps := fc.tmps,params,assign,body,defers := d' })) := by
    rw [a4 fun _ => { state := .ready,pending := none,fn := fc.fn,tmps := fc.tmps,params,assign,body,defers := d' }]
    simp
  have hfr2 : FRel (φ1.add s1.next ⟨w1.heap.size,0,0⟩) ⟨fr.tmps,q.2⟩ cx { fc with todo := .inRangeFunc w1.heap.size :: K,defers := mark ++ fc.defers } :=
    ⟨hfr.fn,hfr.mode,hfr.kind,hfr.round.mono a6.grows.1,hfr.tmps.mono a6.grows.1,a3.mono hle⟩
  have hstep := st_enterLoop (P := P) (cs := cs) hfr.mode ht hrun
  have hfv : VRel (φ1.add s1.next ⟨w1.heap.size,0,0⟩) (fr.eval f) (fc.eval f) := eval_rel (ds := fr.defers) (hfr.tmps.mono a6.grows.1) (hG.mono a6.grows.1) hof
  have hay : LRel (φ1.add s1.next ⟨w1.heap.size,0,0⟩) [.func (.yield s1.next) #[] #[]] [.func (.yield w1.heap.size) #[] #[]] := .one (.yield (L := ⟨w1.heap.size,0,0⟩) (Phi.add_same _ _ _))
  obtain ⟨φ3,w3,v',b1,b2,f1,cs1,w2,b3,b4⟩ := sim_callValue hT hF hC hLg hBz hBc a6.rel ((a6.fresh hf).sub (Nat.le_refl _) n4) (hG.mono a6.grows.1) hfv hay h5 { fc with todo := .inRangeFunc w1.heap.size :: K,defers := mark ++ fc.defers } cs rfl
  have hgo := step_lone_go (hstep.trans b3)
  -- the loop ends
  unfold endLoop at h6
  obtain ⟨r,s9,k1,k2⟩ := bnd_some h6
  obtain ⟨hl,rfl⟩ := getLoop_some k1
  split at k2
  · cases k2
  · rename_i hnb
    obtain ⟨_,s10,k3,k4⟩ := bnd_some k2
    obtain ⟨_,rfl⟩ := setB_some k3
    obtain ⟨L,r',hL,hw3,hoff,hnk,hO3⟩ := loop_of b1.rel hl
    have hL' := b1.grows.1 _ _ (Phi.add_same φ1 s1.next ⟨w1.heap.size,0,0⟩)
    rw [hL'] at hL; cases hL
    obtain ⟨p1,p2,p3,p4,p5,p6,p7,p8,p9,p10⟩ := hO3
    obtain ⟨d1,d2⟩ := putLoop_rel (r2 := { r with state := .exhausted }) (r2' := { r' with state := .exhausted }) b1.rel hl hL' hnk hoff ⟨rfl,p2,p3,p4,p5,p6,p7,p8,p9,p10⟩
    have hfr3 : FRel φ3 ⟨fr.tmps,q.2⟩ cx ({ fc with todo := .inRangeFunc w1.heap.size :: K,defers := mark ++ fc.defers } : Frame) := hfr2.mono b1.grows.1
    have hfin : ({ fc with todo := .inRangeFunc w1.heap.size :: K,defers := mark ++ fc.defers } : Frame).finish v' = { fc with todo := .endRangeFunc w1.heap.size :: K,defers := mark ++ fc.defers } := rfl
    rw [hfin] at b4
    have hend := st_endRange (P := P) (fc := { fc with todo := .endRangeFunc w1.heap.size :: K,defers := mark ++ fc.defers }) (cs := cs) (k := K) hfr.mode rfl hw3 (by rw [← p1]; exact hnb)
    have hA : Aft P B φ s w φ3 { s9 with t := s9.t.set s1.next (some (.obj (.loop { r with state := .exhausted }))),mods := s1.next :: s9.mods } (putLoop w3 w1.heap.size { r' with state := .exhausted }) :=
      a6.trans (b1.trans ⟨Nat.le_refl _,.refl _ _ _,by simp only; rw [get_upd]; exact d1,d2⟩)
    have fin : ∀ todo,FRel φ3 ⟨fr.tmps,q.2⟩ cx { fc with todo := todo,defers := mark ++ fc.defers } := fun todo => ⟨hfr3.fn,hfr3.mode,hfr3.kind,hfr3.round,hfr3.tmps,hfr3.defers⟩
    have hsteps := Steps.head hgo (b4.trans (Steps.one hend))
    have key : s' = { s9 with t := s9.t.set s1.next (some (.obj (.loop { r with state := .exhausted }))),mods := s1.next :: s9.mods } ∧ fr' = ⟨fr.tmps,q.2⟩ ∧
        ((r.pending = none ∧ e = .normal) ∨ (r.pending = some .ret ∧ e = .ret) ∨ ∃ id,r.pending = some (.exit id) ∧ e = .exit id) := by
      generalize r.pending = pd at k4
      cases pd with
      | none => obtain ⟨hx,rfl⟩ := ret_some k4; cases hx; exact ⟨rfl,rfl,.inl ⟨rfl,rfl⟩⟩
      | some c =>
        cases c <;> first
          | (cases k4; done)
          | (obtain ⟨hx,rfl⟩ := ret_some k4; cases hx; exact ⟨rfl,rfl,.inr (.inl ⟨rfl,rfl⟩)⟩)
          | (obtain ⟨hx,rfl⟩ := ret_some k4; cases hx; exact ⟨rfl,rfl,.inr (.inr ⟨_,rfl,rfl⟩)⟩)
    obtain ⟨rfl,rfl,hk⟩ := key
    refine ⟨φ3,_,_,hA,fin _,hsteps,?_⟩
    rw [p2] at hk
    rcases hk with ⟨hp,rfl⟩ | ⟨hp,rfl⟩ | ⟨id,hp,rfl⟩
    · simp only [hp]; rfl
    · simp only [hp]; exact ⟨K,rfl⟩
    · simp only [hp]; exact ⟨K,rfl,rfl⟩
end
end Go.Ev

/-
  EV, PART X: code of every form; a whole call.
-/
namespace Go.Ev
open Go Go.RowKit
section
variable {T : Tab} {P : Program} (hT : T.Ok P) (hF : T.Fns P fun c => codeOk T.globs c = true) (hmix : P.follows .mixedOrders = true)
include hT hF hmix
theorem code_sim : ∀ k,CodeSim T P (fun c => codeOk T.globs c = true) (evCode T k) ∧ LoopSim T P (fun c => codeOk T.globs c = true) (evCode T k)
  | 0 => ⟨fun cx c fr s e fr' s' h => (by cases h),fun cx b fr s e fr' s' h => (by cases h)⟩
  | k + 1 => by
    obtain ⟨ihC,ihL⟩ := code_sim k
    have hLg := fun cx c fr => Logs.evCode (T := T) k cx c fr
    have loop : LoopSim T P (fun c => codeOk T.globs c = true) (evCode T (k + 1)) := by
      intro cx b fr s e fr' s' h hok φ B w fc cs K hBz hBc hR hf hG hfr ht
      have hb : codeOk T.globs b = true := hok
      change (bnd (evCode T k cx b fr) fun p => match p.1 with
        | .normal => evCode T k cx (.loop b) p.2
        | e => ret (e,p.2)) s = some ((e,fr'),s') at h
      obtain ⟨⟨e1,fr1⟩,s1,h1,h2⟩ := bnd_some h
      cases e1 with
      | normal =>
        simp only at h2
        have g2 := (hLg _ _ _ _ _ _ h2).1
        obtain ⟨φ1,w1,f1,a1,a2,a3,a4⟩ := ihC cx b fr s .normal fr1 s1 h1 hb φ B w fc cs (.inLoop b :: K) hBz hBc hR (hf.sub (Nat.le_refl _) g2) hG hfr ht
        have hst := st_inLoop (P := P) (cs := cs) (w := w1) a2.mode a4
        obtain ⟨φ2,w2,f2,b1,b2,b3,b4⟩ := ihL cx b fr1 s1 e fr' s' h2 hok φ1 B w1 _ cs K hBz hBc a1.rel (a1.fresh hf) (hG.mono a1.grows.1) (a2.todo _) rfl
        exact ⟨φ2,w2,f2,a1.trans b1,b2,a3.trans (Steps.head hst b3),b4⟩
      | ret =>
        obtain ⟨hx,rfl⟩ := ret_some h2
        cases hx
        obtain ⟨φ1,w1,f1,a1,a2,a3,a4⟩ := ihC cx b fr s .ret fr1 _ h1 hb φ B w fc cs (.inLoop b :: K) hBz hBc hR hf hG hfr ht
        exact ⟨φ1,w1,f1,a1,a2,a3,a4.skip (by simp) (fun id h => by cases h)⟩
      | exit id =>
        obtain ⟨hx,rfl⟩ := ret_some h2
        cases hx
        obtain ⟨φ1,w1,f1,a1,a2,a3,a4⟩ := ihC cx b fr s (.exit id) fr1 _ h1 hb φ B w fc cs (.inLoop b :: K) hBz hBc hR hf hG hfr ht
        exact ⟨φ1,w1,f1,a1,a2,a3,a4.skip (by simp) (fun id h => by cases h)⟩
    refine ⟨?_,loop⟩
    intro cx c fr s e fr' s' h hok φ B w fc cs K hBz hBc hR hf hG hfr ht
    cases c with
    | skip =>
      obtain ⟨hx,rfl⟩ := ret_some h
      cases hx
      exact ⟨φ,w,_,.refl hR,hfr.todo K,Steps.one (st_skip hfr.mode ht),rfl⟩
    | exit id =>
      obtain ⟨hx,rfl⟩ := ret_some h
      cases hx
      exact ⟨φ,w,fc,.refl hR,hfr,Steps.refl _ _,K,ht,rfl⟩
    | ret =>
      obtain ⟨hx,rfl⟩ := ret_some h
      cases hx
      exact ⟨φ,w,fc,.refl hR,hfr,Steps.refl _ _,K,ht⟩
    | region id ops draw =>
      simp only [codeOk,Bool.and_eq_true] at hok
      change (bnd (evRegion T (evCode T k) ops draw fr) fun fr => ret (.normal,fr)) s = some ((e,fr'),s') at h
      obtain ⟨fr1,s1,h1,h2⟩ := bnd_some h
      obtain ⟨hx,rfl⟩ := ret_some h2
      cases hx
      unfold evRegion at h1
      cases draw with
      | false =>
        simp only [Bool.false_eq_true,if_false] at h1
        have hst := st_region (P := P) (cs := cs) (w := w) hfr.mode ht
        obtain ⟨φ1,w1,f1,a1,a2,a3,a4⟩ := sim_evOps hT hF ihC hLg hBz hBc hok.1 cs cx K ops.size 0 fr _ s _ φ w { fc with todo := .inRegion ops (List.range ops.size) :: K } (by simp) (by simpa using h1) hR hf hG (hfr.todo _) (by simp only; rw [List.range_eq_range'])
        exact ⟨φ1,w1,f1,a1,a2,Steps.head hst a3,a4⟩
      | true =>
        simp only [if_true] at h1
        obtain ⟨t,hst⟩ := st_regionDraw (P := P) (cs := cs) (w := w) hfr.mode ht
        have hR' : Rel φ B s.t.get w.drew := hR.heap rfl
        have hsch : Region.schedule (P.follows .mixedOrders) ops t = Region.linearise .any ops t := by simp [Region.schedule,hmix]
        rw [hsch] at hst
        obtain ⟨φ1,w1,f1,a1,a2,a3,a4⟩ := sim_draw hT hF ihC hLg hBz hBc hok.1 (by simpa using hok.2) cs h1 hR' hf hG (fc := { fc with todo := .inRegion ops (Region.linearise .any ops t) :: K }) (hfr.todo _) rfl
        exact ⟨φ1,w1,f1,⟨a1.next,a1.grows,a1.rel,KeepsB.trans ((Keeps.heap (φ := φ) (H := s.t.get) (w := w) (w' := w.drew) rfl rfl rfl rfl).weak hR) a1.keeps⟩,a2,Steps.head hst a3,a4⟩
    | seq a b =>
      simp only [codeOk,Bool.and_eq_true] at hok
      change (bnd (evCode T k cx a fr) fun p => match p.1 with
        | .normal => evCode T k cx b p.2
        | e => ret (e,p.2)) s = some ((e,fr'),s') at h
      obtain ⟨⟨e1,fr1⟩,s1,h1,h2⟩ := bnd_some h
      have hst := st_seq (P := P) (cs := cs) (w := w) hfr.mode ht
      cases e1 with
      | normal =>
        simp only at h2
        have g2 := (hLg _ _ _ _ _ _ h2).1
        obtain ⟨φ1,w1,f1,a1,a2,a3,a4⟩ := ihC cx a fr s .normal fr1 s1 h1 hok.1 φ B w _ cs (.code b :: K) hBz hBc hR (hf.sub (Nat.le_refl _) g2) hG (hfr.todo _) rfl
        obtain ⟨φ2,w2,f2,b1,b2,b3,b4⟩ := ihC cx b fr1 s1 e fr' s' h2 hok.2 φ1 B w1 f1 cs K hBz hBc a1.rel (a1.fresh hf) (hG.mono a1.grows.1) a2 a4
        exact ⟨φ2,w2,f2,a1.trans b1,b2,Steps.head hst (a3.trans b3),b4⟩
      | ret =>
        obtain ⟨hx,rfl⟩ := ret_some h2
        cases hx
        obtain ⟨φ1,w1,f1,a1,a2,a3,a4⟩ := ihC cx a fr s .ret fr1 _ h1 hok.1 φ B w _ cs (.code b :: K) hBz hBc hR hf hG (hfr.todo _) rfl
        exact ⟨φ1,w1,f1,a1,a2,Steps.head hst a3,a4.skip (by simp) (fun id h => by cases h)⟩
      | exit id =>
        obtain ⟨hx,rfl⟩ := ret_some h2
        cases hx
        obtain ⟨φ1,w1,f1,a1,a2,a3,a4⟩ := ihC cx a fr s (.exit id) fr1 _ h1 hok.1 φ B w _ cs (.code b :: K) hBz hBc hR hf hG (hfr.todo _) rfl
        exact ⟨φ1,w1,f1,a1,a2,Steps.head hst a3,a4.skip (by simp) (fun id h => by cases h)⟩
    | cond x a b =>
      simp only [codeOk,Bool.and_eq_true] at hok
      change (match fr.eval x with
        | .bool t => evCode T k cx (if t then a else b) fr
        | _ => fail) s = some ((e,fr'),s') at h
      have hv : VRel φ (fr.eval x) (fc.eval x) := eval_rel (ds := fr.defers) hfr.tmps hG hok.1
      generalize hx : fr.eval x = v at h hv
      cases v <;> try (cases h; done)
      rename_i t
      simp only at h
      generalize hx' : fc.eval x = v' at hv
      cases hv
      have hst := st_cond (P := P) (cs := cs) (w := w) hfr.mode ht hx'
      obtain ⟨φ1,w1,f1,a1,a2,a3,a4⟩ := ihC cx (if t then a else b) fr s e fr' s' h (by cases t; exact hok.2.2; exact hok.2.1) φ B w _ cs K hBz hBc hR hf hG (hfr.todo _) rfl
      exact ⟨φ1,w1,f1,a1,a2,Steps.head hst a3,a4⟩
    | block id b =>
      have hb : codeOk T.globs b = true := hok
      change (bnd (evCode T k cx b fr) fun p => ret (outOf id p.1,p.2)) s = some ((e,fr'),s') at h
      obtain ⟨⟨e1,fr1⟩,s1,h1,h2⟩ := bnd_some h
      obtain ⟨hx,rfl⟩ := ret_some h2
      cases hx
      have hst := st_block (P := P) (cs := cs) (w := w) hfr.mode ht
      obtain ⟨φ1,w1,f1,a1,a2,a3,a4⟩ := ihC cx b fr s e1 fr1 _ h1 hb φ B w _ cs (.inBlock id :: K) hBz hBc hR hf hG (hfr.todo _) rfl
      cases e1 with
      | normal => exact ⟨φ1,w1,_,a1,a2.todo K,Steps.head hst (a3.trans (Steps.one (st_inBlock a2.mode a4))),rfl⟩
      | ret => exact ⟨φ1,w1,f1,a1,a2,Steps.head hst a3,a4⟩
      | exit id' =>
        obtain ⟨K',k1,k2⟩ := a4
        by_cases e : id' = id
        · subst e
          have k3 : exitTo id' K' = some K := by rw [k2]; simp [exitTo]
          refine ⟨φ1,w1,_,a1,a2.todo K,Steps.head hst (a3.trans (Steps.one (st_exit a2.mode k1 k3))),?_⟩
          simp [outOf,Left]
        · refine ⟨φ1,w1,f1,a1,a2,Steps.head hst a3,?_⟩
          simp only [outOf,if_neg e]
          exact ⟨K',k1,k2.trans (by simp [exitTo,Ne.symm e])⟩
    | loop b =>
      have hst := st_loop (P := P) (cs := cs) (w := w) hfr.mode ht
      obtain ⟨φ1,w1,f1,a1,a2,a3,a4⟩ := loop cx b fr s e fr' s' h hok φ B w _ cs K hBz hBc hR hf hG (hfr.todo _) rfl
      exact ⟨φ1,w1,f1,a1,a2,Steps.head hst a3,a4⟩
    | rangeFunc f params assign body => exact sim_rangeFunc hT hF hmix ihC hLg h hok cs hBz hBc hR hf hG hfr ht
    | _ => cases h
end
end Go.Ev

/-
  EV, PART Y: a whole call: what the evaluator returns, the program returns.
-/
namespace Go.Ev
open Go Go.RowKit
section
variable {T : Tab} {P : Program} (hT : T.Ok P) (hF : T.Fns P fun c => codeOk T.globs c = true) (hmix : P.follows .mixedOrders = true)
include hT hF hmix
theorem calls_of_ev {k : Nat} {f : FuncId} {F : Fn} (hfn : T.fn f = some F) {args args' : List Value} {s s' : St} {v : Value} (h : evCall T k f args s = some (v,s')) {φ : Phi} {B : Base} {w : World} (hBz : B.sz = P.cellsOf) (hBc : B.code = fun c => codeOk T.globs c = true)
    (hR : Rel φ B s.t.get w) (hf : Fresh φ s.next s'.next) (hG : GRel φ T.globs) (ha : LRel φ args args') :
    Calls P f ⟨args'⟩ w fun e w' => ∃ φ' v',e = .returned v' ∧ VRel φ' v v' ∧ KeepsB B w w' := by
  intro cs
  unfold evCall enter at h
  simp only [hfn] at h
  unfold trimMods at h
  split at h
  · rename_i v1 s1 hrun
    cases h
    obtain ⟨⟨e,fr⟩,s2,h1,h2⟩ := bnd_some hrun
    obtain ⟨fn,f1,f2,f3,f4,f5,f6⟩ := hF.fn f F hfn
    have hfr0 : FRel φ ⟨args ++ List.replicate (F.ntmps - args.length) undef,[]⟩ ⟨f,none⟩ (Frame.enter P f ⟨args'⟩ .normal) := by
      refine ⟨rfl,rfl,rfl,trivial,?_,.nil⟩
      simp only [Frame.enter,f1,Option.map_some,Option.getD_some,f2,Array.toList_append,Array.toList_replicate,List.size_toArray]
      rw [← ha.1]
      exact ha.append (.replicate _ .undef)
    have htodo : (Frame.enter P f ⟨args'⟩ .normal).todo = .code F.body :: [] := by
      simp [Frame.enter,f1,f3]
    have hlog := Logs.finishCall (T := T) F e fr s2 _ s1 h2
    obtain ⟨φ',w1,fe,a1,a2,a3,a4⟩ := (code_sim hT hF hmix k).1 ⟨f,none⟩ F.body _ s e fr s2 h1 f6 φ B w (Frame.enter P f ⟨args'⟩ .normal) cs [] hBz hBc hR (hf.sub (Nat.le_refl _) hlog.1) hG hfr0 htodo
    have hro : fe.roundOf = none := by
      have := a2.round
      simp only at this
      cases hx : fe.roundOf with
      | none => rfl
      | some y => rw [hx] at this; exact this.elim
    have hret : ∃ todo,Steps P (lone fe cs w1) (lone { { fe with todo := todo } with mode := .returning } cs w1) ∧ (bnd (takeDefers fr.defers) fun _ => bnd (results T fr.tmps F.results) fun vs => ret (valOf vs)) s2 = some (v,s1) := by
      cases e with
      | normal => exact ⟨fe.todo,Steps.one (st_end a2.mode hro a4),h2⟩
      | ret =>
        obtain ⟨K',hk⟩ := a4
        exact ⟨fe.todo,Steps.one (st_ret a2.mode hro hk),h2⟩
      | exit id => cases h2
    obtain ⟨todo,hst,h3⟩ := hret
    obtain ⟨_,s3,h4,h5⟩ := bnd_some h3
    obtain ⟨i1,w2,i2,i3,i4⟩ := sim_takeDefers (cs := cs) hT hF fr.defers s2 s3 _ w1 { { fe with todo := todo } with mode := .returning } h4 a1.rel a2.defers rfl
    obtain ⟨vs,s4,h6,h7⟩ := bnd_some h5
    obtain ⟨rfl,vs',h8,h9⟩ := sim_results hT hF i2 a2.tmps F.results vs s4 h6
    obtain ⟨rfl,rfl⟩ := ret_some h7
    refine ⟨.returned (valOf vs'),w2,{ { { fe with todo := todo } with mode := .returning } with defers := [] },⟨φ',valOf vs',rfl,valOf_rel h8,a1.keeps.trans i3⟩,a3.trans (hst.trans i4),a2.fn,rfl,rfl,a2.kind,fn,by rw [a2.fn]; exact f1,?_⟩
    have hm : (fn.results.mapM (fun | .tmp t => pure (fe.tmps.getD t undef) | .cell a t => do Go.loadVar t (← asAddr (fe.tmps.getD a undef)) : ResultVar → Sem Value)).run P w2 = .ok ⟨vs'⟩ w2 := by
      rw [Array.mapM_eq_mapM_toList,Sem.run_map,f4]
      exact congrArg (fun r => Result.andThen r (fun (a : List Value) w' => Result.ok a.toArray w')) h9
    show (Go.results fn fe.tmps).run P w2 = .ok (valOf vs') w2
    unfold Go.results
    rw [Sem.run_bind]
    refine (congrArg (fun r => Result.andThen r _) hm).trans ?_
    rw [valOf_eq]
    rfl
  · cases h
theorem law_of_ev {k : Nat} {f : FuncId} {F : Fn} (hfn : T.fn f = some F) (hg : T.globs = 0) {args args' : List Value} {s s' : St} (h : evCall T k f args s = some (.bool true,s')) {φ : Phi} {w : World}
    (hR : Rel φ ⟨fun k => k < w.heap.size,fun c => codeOk T.globs c = true,P.cellsOf⟩ s.t.get w) (hf : ∀ N,s.next ≤ N → φ N = none) (ha : LRel φ args args') :
    Calls P f ⟨args'⟩ w fun e w' => e = .returned (.bool true) ∧ Below w.heap.size w w' :=
  (calls_of_ev hT hF hmix hfn h rfl rfl hR (fun N h1 _ => hf N h1) (fun g hlt => by rw [hg] at hlt; omega) ha).mono fun e w' ⟨φ',v',h1,h2,h3⟩ => by
    cases h2
    exact ⟨h1,h3.os,h3.tape,h3.output,h3.size,h3.block⟩
end
end Go.Ev

/-
  EV, PART Z: the tables of a program, and what the kernel checks of them.
-/
namespace Go.Ev
open Go Go.RowKit
structure Masks where
  fns : Nat
  exts : Nat
  zeros : Nat
  eqs : Nat
def sameOne : List Value → Option Value
  | [v] => some v
  | _ => none
def Tab.sub (P : Program) (m : Masks) : Tab :=
  { Tab.of P with
    zero := fun t => if m.zeros.testBit t then (P.info? t).bind (·.zero) else none
    fn := fun f => if m.fns.testBit f then (Tab.of P).fn f else none
    ext := fun f => if m.exts.testBit f then some sameOne else none
    eqOk := fun t => m.eqs.testBit t }
def fnSure (P : Program) (f : Nat) : Bool :=
  match P.funcs[f]? with
  | some fn => match fn.body with
    | some b => codeOk 0 b && !(fn.name == "runtime.NumGoroutine")
    | none => true
  | none => true
def extSure (P : Program) (f : Nat) : Bool :=
  match P.funcs[f]? with
  | some fn => fn.body.isNone && fn.name == "internal/abi.NoEscape" && (Extern.findNext fn).isNone
  | none => false
def zeroSure (P : Program) (t : Nat) : Bool :=
  match (P.info? t).bind (·.zero) with
  | some v => flatB 3 v
  | none => true
def eqSure (P : Program) (t : Nat) : Bool := !P.stoodInHeld t && !P.eqGuardType P.depth t
def bitsAll (p : Nat → Bool) (m : Nat) : Nat → Nat → Bool
  | 0,_ => true
  | n + 1,a => (!m.testBit a || p a) && bitsAll p m n (a + 1)
theorem bitsAll_at {p : Nat → Bool} {m : Nat} : ∀ {n a : Nat},bitsAll p m n a = true → ∀ i,a ≤ i → i < a + n → m.testBit i = true → p i = true
  | 0,a,_,i,h1,h2,_ => by omega
  | n + 1,a,h,i,h1,h2,hi => by
    simp only [bitsAll,Bool.and_eq_true] at h
    by_cases e : i = a
    · subst e; simpa [hi] using h.1
    · exact bitsAll_at h.2 i (by omega) (by omega) hi
theorem bits_all {p : Nat → Bool} {m n : Nat} (hm : m < 2 ^ n) (h : bitsAll p m n 0 = true) : ∀ i,m.testBit i = true → p i = true := fun i hi => by
  refine bitsAll_at h i (Nat.zero_le _) ?_ hi
  rcases Nat.lt_or_ge i n with h1 | h1
  · omega
  · have : m < 2 ^ i := Nat.lt_of_lt_of_le hm (Nat.pow_le_pow_right (by omega) h1)
    rw [Nat.testBit_lt_two_pow this] at hi; cases hi
theorem lookup_noEscape : Extern.allRows.lookup "internal/abi.NoEscape" = some Extern.AbiNoEscape.same ∧ Extern.allGenericRows.lookup "internal/abi.NoEscape" = none ∧
    Extern.allTypedRows.lookup "internal/abi.NoEscape" = none ∧ Extern.allNextRows.lookup "internal/abi.NoEscape" = none := ⟨by kernel_rfl, by kernel_rfl, by kernel_rfl, by kernel_rfl⟩
structure Masks.Sure (P : Program) (m : Masks) : Prop where
  fns : ∀ f,m.fns.testBit f = true → fnSure P f = true
  exts : ∀ f,m.exts.testBit f = true → extSure P f = true
  zeros : ∀ t,m.zeros.testBit t = true → zeroSure P t = true
  eqs : ∀ t,m.eqs.testBit t = true → eqSure P t = true
theorem Tab.sub_ok {P : Program} {m : Masks} (h : m.Sure P) : (Tab.sub P m).Ok P where
  und t d hd := hd
  size t n hn := by
    simp only [Tab.sub,Tab.of] at hn
    cases hi : P.info? t with
    | none => rw [hi] at hn; cases hn
    | some i => rw [hi] at hn; simp only [Option.map_some,Option.some.injEq] at hn; exact ⟨i,rfl,hn⟩
  bytes t n hn := by
    simp only [Tab.sub,Tab.of] at hn
    cases hi : P.info? t with
    | none => rw [hi] at hn; cases hn
    | some i => rw [hi] at hn; simp only [Option.map_some,Option.some.injEq] at hn; exact ⟨i,rfl,hn⟩
  zero t v hv := by
    simp only [Tab.sub] at hv
    split at hv
    · rename_i hb
      have hs := h.zeros t hb
      unfold zeroSure at hs
      rw [hv] at hs
      cases hi : P.info? t with
      | none => rw [hi] at hv; cases hv
      | some i => rw [hi] at hv; exact ⟨⟨i,rfl,hv⟩,flatB_flat hs⟩
    · cases hv
  cmp t ht := by
    simp only [Tab.sub,Tab.of] at ht
    cases hi : P.info? t with
    | none => rw [hi] at ht; cases ht
    | some i => rw [hi] at ht; exact ⟨i,rfl,ht⟩
  eqOk t ht := by
    have := h.eqs t ht
    simpa [eqSure] using this
theorem Tab.sub_fns {P : Program} {m : Masks} (h : m.Sure P) : (Tab.sub P m).Fns P fun c => codeOk (Tab.sub P m).globs c = true where
  fn f F hF := by
    simp only [Tab.sub] at hF
    split at hF
    · rename_i hb
      have hs := h.fns f hb
      unfold fnSure at hs
      simp only [Tab.of] at hF
      cases hfn : P.funcs[f]? with
      | none => rw [hfn] at hF; cases hF
      | some fn =>
        rw [hfn] at hF hs
        simp only at hF hs
        cases hbd : fn.body with
        | none => rw [hbd] at hF; cases hF
        | some b =>
          rw [hbd] at hF hs
          simp only [Option.some.injEq,Bool.and_eq_true,Bool.not_eq_true'] at hF hs
          subst hF
          exact ⟨fn,rfl,rfl,hbd,rfl,hs.2,hs.1⟩
    · cases hF
  ext f g hg := by
    simp only [Tab.sub] at hg
    split at hg
    · rename_i hb
      cases hg
      have hs := h.exts f hb
      unfold extSure at hs
      cases hfn : P.funcs[f]? with
      | none => rw [hfn] at hs; cases hs
      | some fn =>
        rw [hfn] at hs
        simp only [Bool.and_eq_true,Option.isNone_iff_eq_none,beq_iff_eq] at hs
        obtain ⟨k1,k2,k3,k4⟩ := lookup_noEscape
        refine ⟨fn,Extern.AbiNoEscape.same,rfl,by rw [hs.1.2]; decide,hs.1.1,hs.2,?_,fun φ args args' v w hv ha => ?_⟩
        · unfold Extern.find
          simp only [hs.1.2,k1,k2,k3]
          rfl
        · unfold sameOne at hv
          split at hv
          · cases hv
            obtain ⟨v',r',rfl,h1,h2⟩ := ha.cons_inv
            rw [h2.nil_inv]
            exact ⟨v',rfl,h1⟩
          · cases hv
    · cases hg
  lay f t hg := by cases hg
end Go.Ev

/-
  EV: more fuel, the same answer; calls and code by what they come to.
-/
namespace Go.Ev
open Go Go.RowKit
def Mle {α : Type} (m m' : M α) : Prop := ∀ s r,m s = some r → m' s = some r
theorem Mle.refl {α : Type} (m : M α) : Mle m m := fun _ _ h => h
theorem Mle.bnd {α β : Type} {m m' : M α} {f f' : α → M β} (h : Mle m m') (hf : ∀ a,Mle (f a) (f' a)) : Mle (Ev.bnd m f) (Ev.bnd m' f') := fun s r e => by
  obtain ⟨b,s'⟩ := r
  obtain ⟨a,s1,h1,h2⟩ := bnd_some e
  have h3 := h _ _ h1
  have h4 := hf a _ _ h2
  simp only [Ev.bnd,h3,h4]
theorem Mle.ite {α : Type} {c : Prop} [Decidable c] {a b a' b' : M α} (ha : Mle a a') (hb : Mle b b') : Mle (if c then a else b) (if c then a' else b') := by split <;> assumption
theorem Mle.trim {α : Type} {m m' : M α} (h : Mle m m') : Mle (trimMods m) (trimMods m') := fun s r e => by
  unfold trimMods at e ⊢
  cases hm : m s with
  | none => rw [hm] at e; cases e
  | some p => rw [h s p hm]; rw [hm] at e; exact e
def RecLe (r r' : RunCode) : Prop := ∀ cx c fr,Mle (r cx c fr) (r' cx c fr)
section
variable {T : Tab} {r r' : RunCode} (h : RecLe r r')
include h
theorem Mle.enter (f : FuncId) (args : List Value) : Mle (Ev.enter T r f args) (Ev.enter T r' f args) := by
  unfold Ev.enter
  cases T.fn f with
  | none => exact .refl _
  | some F => exact .trim (.bnd (h _ _ _) fun _ => .refl _)
theorem Mle.endRoundBody (l : Nat) (lp : Loop) (e : Ex) (fr : Fr) : Mle (Ev.roundBody r l lp e fr) (Ev.roundBody r' l lp e fr) := by
  cases e with
  | normal => exact .bnd (.refl _) fun _ => .ite (.bnd (.refl _) fun _ => .bnd (h _ _ _) fun _ => .refl _) (.refl _)
  | ret => exact .refl _
  | exit id => exact .refl _
theorem Mle.round (l : Nat) (args : List Value) : Mle (Ev.round r l args) (Ev.round r' l args) :=
  .bnd (.refl _) fun _ => .ite (.bnd (h _ _ _) fun _ => Mle.endRoundBody h _ _ _ _) (.refl _)
theorem Mle.callValue (f : Value) (args : List Value) : Mle (Ev.callValue T r f args) (Ev.callValue T r' f args) := by
  unfold Ev.callValue
  split
  · exact Mle.enter h _ _
  · exact Mle.round h _ _
  · exact .refl _
theorem Mle.evOp (fr : Fr) (o : Oper) : Mle (Ev.evOp T r fr o) (Ev.evOp T r' fr o) := by
  unfold Ev.evOp
  split
  · exact Mle.callValue h _ _
  · exact .refl _
theorem Mle.evOps (ops : Array Oper) : ∀ (l : List Oper) (fr : Fr),Mle (Ev.evOps T r ops l fr) (Ev.evOps T r' ops l fr)
  | [],fr => .refl _
  | o :: os,fr => by
    unfold Ev.evOps
    exact .ite (.bnd (Mle.evOp h _ _) fun _ => Mle.evOps ops os _) (Mle.evOps ops os _)
theorem Mle.drawOne (bits : Nat) (ds : List (Nat × Did)) (fr : Fr) (o : Oper) : Mle (Ev.drawOne T r bits ds fr o) (Ev.drawOne T r' bits ds fr o) := fun s p e => by
  unfold Ev.drawOne at e ⊢
  split at e
  · cases e
  · rename_i v s1 hr
    rw [Mle.evOp h fr o _ _ hr]
    exact e
theorem Mle.evDraw (ops : Array Oper) (bef : List Nat) : ∀ (l : List Oper) (i : Nat) (ds : List (Nat × Did)) (fr : Fr),Mle (Ev.evDraw T r ops bef i l ds fr) (Ev.evDraw T r' ops bef i l ds fr)
  | [],i,ds,fr => .refl _
  | o :: os,i,ds,fr => by
    unfold Ev.evDraw
    exact .ite (.bnd (Mle.drawOne h _ _ _ _) fun _ => Mle.evDraw ops bef os _ _ _) (Mle.evDraw ops bef os _ _ _)
theorem Mle.evRegion (ops : Array Oper) (d : Bool) (fr : Fr) : Mle (Ev.evRegion T r ops d fr) (Ev.evRegion T r' ops d fr) := by
  unfold Ev.evRegion
  exact .ite (Mle.evDraw h _ _ _ _ _ _) (Mle.evOps h _ _ _)
end
theorem evCode_succ {T : Tab} : ∀ k,RecLe (evCode T k) (evCode T (k + 1))
  | 0 => fun cx c fr s r e => by cases e
  | k + 1 => by
    have ih := evCode_succ (T := T) k
    intro cx c fr
    cases c with
    | region id ops d => exact .bnd (Mle.evRegion ih _ _ _) fun _ => .refl _
    | seq a b =>
      refine .bnd (ih _ _ _) fun p => ?_
      obtain ⟨e,fr'⟩ := p
      cases e with
      | normal => exact ih _ _ _
      | ret => exact .refl _
      | exit id => exact .refl _
    | cond x a b =>
      show Mle (match fr.eval x with | .bool t => evCode T k cx (if t then a else b) fr | _ => fail) (match fr.eval x with | .bool t => evCode T (k + 1) cx (if t then a else b) fr | _ => fail)
      cases fr.eval x with
      | bool t => exact ih _ _ _
      | _ => exact .refl _
    | block id b => exact .bnd (ih _ _ _) fun _ => .refl _
    | loop b =>
      refine .bnd (ih _ _ _) fun p => ?_
      obtain ⟨e,fr'⟩ := p
      cases e with
      | normal => exact ih _ _ _
      | ret => exact .refl _
      | exit id => exact .refl _
    | rangeFunc f ps a b => exact .bnd (.refl _) fun _ => .bnd (.refl _) fun _ => .bnd (Mle.callValue ih _ _) fun _ => .refl _
    | _ => exact .refl _
theorem evCode_le {T : Tab} {k k' : Nat} (h : k ≤ k') : RecLe (evCode T k) (evCode T k') := by
  induction h with
  | refl => exact fun _ _ _ => .refl _
  | step _ ih => exact fun cx c fr s r e => evCode_succ _ cx c fr s r (ih cx c fr s r e)
def Ends (T : Tab) (cx : Ctx) (c : Code) (fr : Fr) (s : St) (Q : Ex → Fr → St → Prop) : Prop := ∃ k e fr' s',evCode T k cx c fr s = some ((e,fr'),s') ∧ Q e fr' s'
def EndsOps (T : Tab) (ops : Array Oper) (l : List Oper) (fr : Fr) (s : St) (Q : Fr → St → Prop) : Prop := ∃ k fr' s',evOps T (evCode T k) ops l fr s = some (fr',s') ∧ Q fr' s'
def EndsDraw (T : Tab) (ops : Array Oper) (bef : List Nat) (i : Nat) (l : List Oper) (ds : List (Nat × Did)) (fr : Fr) (s : St) (Q : Fr → St → Prop) : Prop := ∃ k fr' s',evDraw T (evCode T k) ops bef i l ds fr s = some (fr',s') ∧ Q fr' s'
def EndsCall (T : Tab) (f : FuncId) (args : List Value) (s : St) (Q : Value → St → Prop) : Prop := ∃ k v s',evCall T k f args s = some (v,s') ∧ Q v s'
section
variable {T : Tab} {cx : Ctx} {fr : Fr} {s : St}
theorem Ends.mono {c : Code} {Q Q' : Ex → Fr → St → Prop} (h : Ends T cx c fr s Q) (hq : ∀ e fr s,Q e fr s → Q' e fr s) : Ends T cx c fr s Q' :=
  let ⟨k,e,fr',s',h1,h2⟩ := h; ⟨k,e,fr',s',h1,hq _ _ _ h2⟩
theorem EndsCall.mono {f : FuncId} {args : List Value} {Q Q' : Value → St → Prop} (h : EndsCall T f args s Q) (hq : ∀ v s,Q v s → Q' v s) : EndsCall T f args s Q' :=
  let ⟨k,v,s',h1,h2⟩ := h; ⟨k,v,s',h1,hq _ _ h2⟩
theorem Ends.skip {Q : Ex → Fr → St → Prop} (h : Q .normal fr s) : Ends T cx .skip fr s Q := ⟨1,_,_,_,rfl,h⟩
theorem Ends.ret {Q : Ex → Fr → St → Prop} (h : Q .ret fr s) : Ends T cx .ret fr s Q := ⟨1,_,_,_,rfl,h⟩
theorem Ends.exit {id : Nat} {Q : Ex → Fr → St → Prop} (h : Q (.exit id) fr s) : Ends T cx (.exit id) fr s Q := ⟨1,_,_,_,rfl,h⟩
theorem Ends.seq {a b : Code} {Q : Ex → Fr → St → Prop} (h : Ends T cx a fr s fun e fr s => match e with
    | .normal => Ends T cx b fr s Q
    | e => Q e fr s) : Ends T cx (.seq a b) fr s Q := by
  obtain ⟨k,e,fr',s',h1,h2⟩ := h
  cases e with
  | normal =>
    obtain ⟨k2,e2,fr2,s2,h3,h4⟩ := h2
    refine ⟨max k k2 + 1,e2,fr2,s2,?_,h4⟩
    show bnd _ _ s = _
    simp only [bnd,evCode_le (Nat.le_max_left k k2) _ _ _ _ _ h1,evCode_le (Nat.le_max_right k k2) _ _ _ _ _ h3]
  | ret => exact ⟨k + 1,.ret,fr',s',by show bnd _ _ s = _; simp only [bnd,h1]; rfl,h2⟩
  | exit id => exact ⟨k + 1,.exit id,fr',s',by show bnd _ _ s = _; simp only [bnd,h1]; rfl,h2⟩
theorem Ends.cond {x : Operand} {a b : Code} {t : Bool} {Q : Ex → Fr → St → Prop} (hx : fr.eval x = .bool t) (h : Ends T cx (if t then a else b) fr s Q) : Ends T cx (.cond x a b) fr s Q := by
  obtain ⟨k,e,fr',s',h1,h2⟩ := h
  refine ⟨k + 1,e,fr',s',?_,h2⟩
  show (match fr.eval x with | .bool t => evCode T k cx (if t then a else b) fr | _ => fail) s = _
  rw [hx]; exact h1
theorem Ends.block {id : Nat} {b : Code} {Q : Ex → Fr → St → Prop} (h : Ends T cx b fr s fun e fr s => Q (outOf id e) fr s) : Ends T cx (.block id b) fr s Q := by
  obtain ⟨k,e,fr',s',h1,h2⟩ := h
  exact ⟨k + 1,_,fr',s',by show bnd _ _ s = _; simp only [bnd,h1]; rfl,h2⟩
theorem Ends.loop {b : Code} {Q : Ex → Fr → St → Prop} (h : Ends T cx b fr s fun e fr s => match e with
    | .normal => Ends T cx (.loop b) fr s Q
    | e => Q e fr s) : Ends T cx (.loop b) fr s Q := by
  obtain ⟨k,e,fr',s',h1,h2⟩ := h
  cases e with
  | normal =>
    obtain ⟨k2,e2,fr2,s2,h3,h4⟩ := h2
    refine ⟨max k k2 + 1,e2,fr2,s2,?_,h4⟩
    show bnd _ _ s = _
    simp only [bnd,evCode_le (Nat.le_max_left k k2) _ _ _ _ _ h1,evCode_le (Nat.le_max_right k k2) _ _ _ _ _ h3]
  | ret => exact ⟨k + 1,.ret,fr',s',by show bnd _ _ s = _; simp only [bnd,h1]; rfl,h2⟩
  | exit id => exact ⟨k + 1,.exit id,fr',s',by show bnd _ _ s = _; simp only [bnd,h1]; rfl,h2⟩
theorem Ends.region {id : Nat} {ops : Array Oper} {Q : Ex → Fr → St → Prop} (h : EndsOps T ops ops.toList fr s fun fr s => Q .normal fr s) : Ends T cx (.region id ops false) fr s Q := by
  obtain ⟨k,fr',s',h1,h2⟩ := h
  refine ⟨k + 1,.normal,fr',s',?_,h2⟩
  show bnd (evRegion T (evCode T k) ops false fr) _ s = _
  simp only [bnd,evRegion,Bool.false_eq_true,if_false,h1]
  rfl
theorem Ends.draw {id : Nat} {ops : Array Oper} {Q : Ex → Fr → St → Prop} (h : EndsDraw T ops (befL [] ops.toList) 0 ops.toList [] fr s fun fr s => Q .normal fr s) : Ends T cx (.region id ops true) fr s Q := by
  obtain ⟨k,fr',s',h1,h2⟩ := h
  refine ⟨k + 1,.normal,fr',s',?_,h2⟩
  show bnd (evRegion T (evCode T k) ops true fr) _ s = _
  simp only [bnd,evRegion,if_true,h1]
  rfl
theorem EndsOps.nil {ops : Array Oper} {Q : Fr → St → Prop} (h : Q fr s) : EndsOps T ops [] fr s Q := ⟨0,fr,s,rfl,h⟩
theorem EndsOps.skip {ops : Array Oper} {o : Oper} {os : List Oper} {Q : Fr → St → Prop} (hw : Region.wanted o (yieldedL ops fr.tmps) = false) (h : EndsOps T ops os (fr.put o.dst undef) s Q) : EndsOps T ops (o :: os) fr s Q := by
  obtain ⟨k,fr',s',h1,h2⟩ := h
  refine ⟨k,fr',s',?_,h2⟩
  unfold evOps
  rw [if_neg (by rw [hw]; simp)]; exact h1
theorem EndsOps.plain {ops : Array Oper} {o : Oper} {os : List Oper} {v : Value} {s1 : St} {Q : Fr → St → Prop} (hw : Region.wanted o (yieldedL ops fr.tmps) = true) (hp : evPlain T fr.eval o.op s = some (v,s1)) (hc : ∀ f args ts,o.op ≠ .call ⟨.value f,args,ts⟩)
    (h : EndsOps T ops os (fr.put o.dst v) s1 Q) : EndsOps T ops (o :: os) fr s Q := by
  obtain ⟨k,fr',s',h1,h2⟩ := h
  refine ⟨k,fr',s',?_,h2⟩
  unfold evOps
  rw [if_pos hw]
  have : evOp T (evCode T k) fr o = evPlain T fr.eval o.op := by
    unfold evOp
    split
    · rename_i f args ts hop; exact absurd hop (hc _ _ _)
    · rfl
  simp only [bnd,this,hp]; exact h1
theorem EndsOps.call {ops : Array Oper} {o : Oper} {os : List Oper} {f : Operand} {args : Array Operand} {ts : Array TypeId} {g : FuncId} {a c : Array Value} {Q : Fr → St → Prop} (hw : Region.wanted o (yieldedL ops fr.tmps) = true) (ho : o.op = .call ⟨.value f,args,ts⟩)
    (hf : fr.eval f = .func (.func g) a c) (h : EndsCall T g (a.toList ++ args.toList.map fr.eval ++ c.toList) s fun v s => EndsOps T ops os (fr.put o.dst v) s Q) : EndsOps T ops (o :: os) fr s Q := by
  obtain ⟨k,v,s1,h1,k2,fr',s',h3,h4⟩ := h
  refine ⟨max k k2,fr',s',?_,h4⟩
  unfold evOps
  rw [if_pos hw]
  have e1 : evOp T (evCode T (max k k2)) fr o s = some (v,s1) := by
    have : evOp T (evCode T k) fr o s = some (v,s1) := by
      unfold evOp; rw [ho]; simp only [callValue,hf]; exact h1
    exact Mle.evOp (evCode_le (Nat.le_max_left k k2)) fr o _ _ this
  simp only [bnd,e1]
  exact Mle.evOps (evCode_le (Nat.le_max_right k k2)) ops os _ _ _ h3
theorem EndsCall.of {f : FuncId} {F : Fn} {args : List Value} {Q : Value → St → Prop} (hF : T.fn f = some F)
    (h : Ends T ⟨f,none⟩ F.body ⟨args ++ List.replicate (F.ntmps - args.length) undef,[]⟩ s fun e fr s1 => ∃ v s2,finishCall T F e fr s1 = some (v,s2) ∧ Q v { s2 with mods := newMods s s2 ++ s.mods }) : EndsCall T f args s Q := by
  obtain ⟨k,e,fr',s1,h1,v,s2,h3,h4⟩ := h
  refine ⟨k,v,_,?_,h4⟩
  unfold evCall enter
  simp only [hF,trimMods,bnd,h1,h3]
end
end Go.Ev

/-
  EV: the rules of a printed walk: explicit values, explicit frames; states behind memory by what is known of them.
-/
namespace Go.Ev
open Go Go.RowKit
structure Keep (s s' : St) : Prop where
  next : s.next ≤ s'.next
  mods : s'.mods = s.mods
  old : ∀ N,N < s.next → s'.t.get N = s.t.get N
theorem Keep.refl (s : St) : Keep s s := ⟨Nat.le_refl _,rfl,fun _ _ => rfl⟩
theorem Keep.trans {a b c : St} (h : Keep a b) (k : Keep b c) : Keep a c :=
  ⟨Nat.le_trans h.next k.next,k.mods.trans h.mods,fun N hN => (k.old N (Nat.lt_of_lt_of_le hN h.next)).trans (h.old N hN)⟩
section
variable {T : Tab} {fr : Fr} {s : St} {ops : Array Oper} {o : Oper} {os : List Oper} {Q : Fr → St → Prop}
theorem EndsOps.plain1 {v : Value} {s1 : St} {fr1 : Fr} (hw : Region.wanted o (yieldedL ops fr.tmps) = true) (hp : evPlain T fr.eval o.op s = some (v,s1)) (hc : ∀ f args ts,o.op ≠ .call ⟨.value f,args,ts⟩)
    (hf : fr.put o.dst v = fr1) (h : EndsOps T ops os fr1 s1 Q) : EndsOps T ops (o :: os) fr s Q := EndsOps.plain hw hp hc (hf ▸ h)
theorem EndsOps.skip1 {fr1 : Fr} (hw : Region.wanted o (yieldedL ops fr.tmps) = false) (hf : fr.put o.dst undef = fr1) (h : EndsOps T ops os fr1 s Q) : EndsOps T ops (o :: os) fr s Q := EndsOps.skip hw (hf ▸ h)
theorem EndsOps.call1 {f : Operand} {args : Array Operand} {ts : Array TypeId} {g : FuncId} {a c : Array Value} {as : List Value} {R : Value → St → Prop} (hw : Region.wanted o (yieldedL ops fr.tmps) = true) (ho : o.op = .call ⟨.value f,args,ts⟩)
    (hf : fr.eval f = .func (.func g) a c) (ha : a.toList ++ args.toList.map fr.eval ++ c.toList = as) (hR : EndsCall T g as s R) (h : ∀ v s1,R v s1 → EndsOps T ops os (fr.put o.dst v) s1 Q) : EndsOps T ops (o :: os) fr s Q :=
  EndsOps.call hw ho hf (by rw [ha]; exact hR.mono h)
end
section
variable {T : Tab} {fr : Fr} {s : St} {ops : Array Oper} {bef : List Nat} {i : Nat} {o : Oper} {os : List Oper} {ds : List (Nat × Did)} {Q : Fr → St → Prop}
theorem EndsDraw.nil (h : Q fr s) : EndsDraw T ops bef i [] ds fr s Q := ⟨0,fr,s,rfl,h⟩
theorem EndsDraw.skip1 {fr1 : Fr} (hw : Region.wanted o (yieldedL ops fr.tmps) = false) (hf : fr.put o.dst undef = fr1) (h : EndsDraw T ops bef (i + 1) os ds fr1 s Q) : EndsDraw T ops bef i (o :: os) ds fr s Q := by
  obtain ⟨k,fr',s',h1,h2⟩ := h
  refine ⟨k,fr',s',?_,h2⟩
  unfold evDraw
  rw [if_neg (by rw [hw]; simp),hf]; exact h1
def Calm (ds : List (Nat × Did)) : Prop := ∀ p ∈ ds,p.2.mods = []
theorem Calm.nil : Calm [] := fun _ h => by cases h
theorem Calm.cons {j : Nat} {d : Did} {ds : List (Nat × Did)} (hd : d.mods = []) (h : Calm ds) : Calm ((j,d) :: ds) := fun p hp => by
  rcases List.mem_cons.1 hp with rfl | hp
  · exact hd
  · exact h p hp
theorem Calm.ok {ds : List (Nat × Did)} (h : Calm ds) (bits : Nat) (view : Tree) {d : Did} (hd : d.mods = []) (hk : d.kind ≠ 2) (hk4 : d.kind ≠ 4) : drawOk bits ds view d = true := by
  unfold drawOk
  have h1 : (ds.all fun p => bits.testBit p.1 || okPair p.2 d || okLate p.2 d) = true := List.all_eq_true.2 fun p hp => by simp [okPair,okOne,h p hp,hd]
  have h2 : (d.kind != 2 && d.kind != 4) = true := by simp [hk,hk4]
  simp [h1,h2,hd]
theorem EndsDraw.still {v : Value} {fr1 : Fr} (hcalm : Calm ds) (hw : Region.wanted o (yieldedL ops fr.tmps) = true) (hk : kindOf o = 0) (hc : ∀ f args ts,o.op ≠ .call ⟨.value f,args,ts⟩)
    (hp : evPlain T fr.eval o.op ⟨.leaf,s.next,[]⟩ = some (v,⟨.leaf,s.next,[]⟩)) (hf : fr.put o.dst v = fr1) (h : EndsDraw T ops bef (i + 1) os ((i,⟨0,blkOf fr o,s.next,s.next,[],againOf T fr o s.next v,.leaf⟩) :: ds) fr1 s Q) : EndsDraw T ops bef i (o :: os) ds fr s Q := by
  obtain ⟨k,fr',s',h1,h2⟩ := h
  refine ⟨k,fr',s',?_,h2⟩
  unfold evDraw
  rw [if_pos hw]
  have e : evOp T (evCode T k) fr o = evPlain T fr.eval o.op := by
    unfold evOp
    split
    · rename_i f args ts hop; exact absurd hop (hc _ _ _)
    · rfl
  have e1 : drawOne T (evCode T k) (bef.getD i 0) ds fr o s = some ((v,⟨0,blkOf fr o,s.next,s.next,[],againOf T fr o s.next v,.leaf⟩),s) := by
    unfold drawOne
    have hv : viewOf 0 (blkOf fr o) (hiddenOf (bef.getD i 0) ds) s.t = .leaf := rfl
    have hok := hcalm.ok (bef.getD i 0) .leaf (d := ⟨0,blkOf fr o,s.next,s.next,[],againOf T fr o s.next v,.leaf⟩) rfl (by simp) (by simp)
    simp only [hv,e,hp,hk,outer,List.filter_nil,hok,if_true,Nat.sub_self,giveRange,giveBack,List.nil_append]
  simp only [bnd,e1,hf]; exact h1
theorem EndsDraw.load {v : Value} {fr1 : Fr} {N : Nat} (hcalm : Calm ds) (hw : Region.wanted o (yieldedL ops fr.tmps) = true) (hk : kindOf o = 2) (hc : ∀ f args ts,o.op ≠ .call ⟨.value f,args,ts⟩) (hb : blkOf fr o = N)
    (hh : ((hiddenOf (bef.getD i 0) ds).all fun p => decide (N < p.1) || decide (p.2 ≤ N)) = true)
    (hp : ∀ s0 : St,s0.t.get N = s.t.get N → evPlain T fr.eval o.op s0 = some (v,s0)) (hf : fr.put o.dst v = fr1) (h : EndsDraw T ops bef (i + 1) os ((i,⟨2,N,s.next,s.next,[],againOf T fr o s.next v,Tree.leaf.set N (s.t.get N)⟩) :: ds) fr1 s Q) : EndsDraw T ops bef i (o :: os) ds fr s Q := by
  obtain ⟨k,fr',s',h1,h2⟩ := h
  refine ⟨k,fr',s',?_,h2⟩
  unfold evDraw
  rw [if_pos hw]
  have e : evOp T (evCode T k) fr o = evPlain T fr.eval o.op := by
    unfold evOp
    split
    · rename_i f args ts hop; exact absurd hop (hc _ _ _)
    · rfl
  have hv : viewOf 2 N (hiddenOf (bef.getD i 0) ds) s.t = Tree.leaf.set N (s.t.get N) := rfl
  have hp' := hp ⟨Tree.leaf.set N (s.t.get N),s.next,[]⟩ (Tree.get_set_same _ _ _)
  have hok : drawOk (bef.getD i 0) ds (Tree.leaf.set N (s.t.get N)) ⟨2,N,s.next,s.next,[],againOf T fr o s.next v,Tree.leaf.set N (s.t.get N)⟩ = true := by
    unfold drawOk
    have h3 : (ds.all fun p => (bef.getD i 0).testBit p.1 || okPair p.2 ⟨2,N,s.next,s.next,[],againOf T fr o s.next v,Tree.leaf.set N (s.t.get N)⟩ || okLate p.2 ⟨2,N,s.next,s.next,[],againOf T fr o s.next v,Tree.leaf.set N (s.t.get N)⟩) = true := List.all_eq_true.2 fun p hp => by simp [okPair,okOne,hcalm p hp]
    simp only [h3,hh]
    simp
  have e1 : drawOne T (evCode T k) (bef.getD i 0) ds fr o s = some ((v,⟨2,N,s.next,s.next,[],againOf T fr o s.next v,Tree.leaf.set N (s.t.get N)⟩),s) := by
    unfold drawOne
    simp only [hk,hb,hv,e,hp',outer,List.filter_nil,hok,if_true,Nat.sub_self,giveRange,giveBack,List.nil_append]
  simp only [bnd,e1,hf]; exact h1
theorem EndsDraw.call1 {f : Operand} {args : Array Operand} {ts : Array TypeId} {g : FuncId} {a c : Array Value} {as : List Value} {R : Value → St → Prop} (hcalm : Calm ds) (hw : Region.wanted o (yieldedL ops fr.tmps) = true) (ho : o.op = .call ⟨.value f,args,ts⟩)
    (hf : fr.eval f = .func (.func g) a c) (ha : a.toList ++ args.toList.map fr.eval ++ c.toList = as) (hh : hiddenOf (bef.getD i 0) ds = [])
    (hR : EndsCall T g as ⟨s.t,s.next,[]⟩ fun v b => R v b ∧ Keep ⟨s.t,s.next,[]⟩ b)
    (h : ∀ (v : Value) (b s1 : St),R v b → Keep s s1 → s1.next = b.next → (∀ N,N < b.next → s1.t.get N = b.t.get N) → EndsDraw T ops bef (i + 1) os ((i,⟨3,blkOf fr o,s.next,b.next,[],againOf T fr o s.next v,b.t⟩) :: ds) (fr.put o.dst v) s1 Q) : EndsDraw T ops bef i (o :: os) ds fr s Q := by
  obtain ⟨k,v,b,h1,h2,hK⟩ := hR
  have kn := hK.next
  simp only at kn
  have hm : b.mods = [] := hK.mods
  have hget : ∀ N,N < b.next → (giveRange (b.next - s.next) s.next b.t s.t).get N = b.t.get N := fun N hN => by
    rw [giveRange_get]
    by_cases hx : s.next ≤ N ∧ N < s.next + (b.next - s.next)
    · rw [if_pos hx]
    · rw [if_neg hx]; exact (hK.old N (by simp only; omega)).symm
  obtain ⟨k2,fr',s',h3,h4⟩ := h v b ⟨giveRange (b.next - s.next) s.next b.t s.t,b.next,s.mods⟩ h2 ⟨kn,rfl,fun N hN => (hget N (by omega)).trans (hK.old N hN)⟩ rfl hget
  refine ⟨max k k2,fr',s',?_,h4⟩
  unfold evDraw
  rw [if_pos hw]
  have hkind : kindOf o = 3 := by unfold kindOf; rw [ho]
  have e0 : evOp T (evCode T (max k k2)) fr o ⟨s.t,s.next,[]⟩ = some (v,b) := by
    have : evOp T (evCode T k) fr o ⟨s.t,s.next,[]⟩ = some (v,b) := by
      unfold evOp; rw [ho]; simp only [callValue,hf,ha]; exact h1
    exact Mle.evOp (evCode_le (Nat.le_max_left k k2)) fr o _ _ this
  have hv : viewOf 3 (blkOf fr o) [] s.t = s.t := rfl
  have hok := hcalm.ok (bef.getD i 0) s.t (d := ⟨3,blkOf fr o,s.next,b.next,[],againOf T fr o s.next v,b.t⟩) rfl (by simp) (by simp)
  have e1 : drawOne T (evCode T (max k k2)) (bef.getD i 0) ds fr o s = some ((v,⟨3,blkOf fr o,s.next,b.next,[],againOf T fr o s.next v,b.t⟩),⟨giveRange (b.next - s.next) s.next b.t s.t,b.next,s.mods⟩) := by
    unfold drawOne
    simp only [hkind,hh,hv,e0,outer,hm,List.filter_nil,hok,if_true,giveBack,List.nil_append]
  simp only [bnd,e1]
  exact Mle.evDraw (evCode_le (Nat.le_max_right k k2)) ops bef os _ _ _ _ _ h3
end
section
variable {T : Tab} {cx : Ctx} {fr : Fr} {s : St}
theorem Ends.condT {x : Operand} {a b : Code} {Q : Ex → Fr → St → Prop} (hx : fr.eval x = .bool true) (h : Ends T cx a fr s Q) : Ends T cx (.cond x a b) fr s Q := Ends.cond hx (by simpa using h)
theorem Ends.condF {x : Operand} {a b : Code} {Q : Ex → Fr → St → Prop} (hx : fr.eval x = .bool false) (h : Ends T cx b fr s Q) : Ends T cx (.cond x a b) fr s Q := Ends.cond hx (by simpa using h)
def isExit : Ex → Bool
  | .exit _ => true
  | _ => false
theorem results_tmps {tmps : List Value} {s : St} : ∀ rs : List Tmp,results T tmps (rs.map ResultVar.tmp) s = some (rs.map (tmps.getD · undef),s)
  | [] => rfl
  | r :: rs => by
    simp only [List.map_cons,results,bnd,results_tmps rs]
    rfl
theorem EndsCall.of1 {f : FuncId} {n : Nat} {body : Code} {rs : List Tmp} {args : List Value} {fr0 : Fr} {Q : Value → St → Prop} (hF : T.fn f = some ⟨n,body,rs.map ResultVar.tmp⟩) (h0 : (⟨args ++ List.replicate (n - args.length) undef,[]⟩ : Fr) = fr0)
    (h : Ends T ⟨f,none⟩ body fr0 s fun e fr s1 => isExit e = false ∧ fr.defers = [] ∧ Q (valOf (rs.map (fr.tmps.getD · undef))) { s1 with mods := newMods s s1 ++ s.mods }) : EndsCall T f args s Q := by
  subst h0
  refine EndsCall.of hF (h.mono fun e fr s1 ⟨h1,h2,h3⟩ => ⟨_,s1,?_,h3⟩)
  unfold finishCall
  cases e with
  | exit id => cases h1
  | normal => simp only [h2,takeDefers,bnd,results_tmps]; rfl
  | ret => simp only [h2,takeDefers,bnd,results_tmps]; rfl
end
end Go.Ev
