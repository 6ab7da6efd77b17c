/-
  EV: the difference of two workspaces, in plain Lean.
-/
import Derived.Test.YtelpkdjibjddlaaEvRead2
import Derived.Test.YtelpkdjibjddlaaEvWalk
import Derived.Test.YtelpkdjibjddlaaEvFiA2
namespace Go.Ev
open Go Go.RowKit

/-- How far two lists of bytes are one. -/
def comL : List UInt8 → List UInt8 → Nat
  | a :: x, b :: y => if a = b then comL x y + 1 else 0
  | _, _ => 0
/-- So far they are. -/
def SameTo (x y : List UInt8) (n : Nat) : Prop := ∀ k, k < n → ∃ b, x[k]? = some b ∧ y[k]? = some b
theorem SameTo.zero {x y : List UInt8} : SameTo x y 0 := fun k hk => absurd hk (Nat.not_lt_zero k)
theorem SameTo.step {x y : List UInt8} {n : Nat} {a b : UInt8} (h : SameTo x y n) (ha : x[n]? = some a) (hb : y[n]? = some b) (e : a = b) : SameTo x y (n + 1) := fun k hk => by
  by_cases hkn : k = n
  · subst hkn; exact ⟨a, ha, e ▸ hb⟩
  · exact h k (by omega)
theorem com_at : ∀ {x y : List UInt8} {n : Nat}, SameTo x y n → (∀ a b, x[n]? = some a → y[n]? = some b → ¬ a = b) → comL x y = n
  | [], y, 0, _, _ => by unfold comL; rfl
  | [], y, n + 1, h, _ => by obtain ⟨b, hb, _⟩ := h 0 (by omega); simp at hb
  | a :: x, [], 0, _, _ => by unfold comL; rfl
  | a :: x, [], n + 1, h, _ => by obtain ⟨b, _, hb⟩ := h 0 (by omega); simp at hb
  | a :: x, b :: y, 0, _, hs => by
    unfold comL
    rw [if_neg (hs a b rfl rfl)]
  | a :: x, b :: y, n + 1, h, hs => by
    obtain ⟨c, h1, h2⟩ := h 0 (by omega)
    simp at h1 h2
    subst h1 h2
    unfold comL
    rw [if_pos rfl, com_at (n := n) (fun k hk => by
      obtain ⟨b, h3, h4⟩ := h (k + 1) (by omega)
      exact ⟨b, by simpa using h3, by simpa using h4⟩) fun a b ha hb => hs a b (by simpa using ha) (by simpa using hb)]
theorem com_le : ∀ (x y : List UInt8), comL x y ≤ x.length ∧ comL x y ≤ y.length
  | [], y => by unfold comL; exact ⟨Nat.zero_le _, Nat.zero_le _⟩
  | a :: x, [] => by unfold comL; exact ⟨Nat.zero_le _, Nat.zero_le _⟩
  | a :: x, b :: y => by
    have := com_le x y
    unfold comL
    split
    · simp; omega
    · exact ⟨Nat.zero_le _, Nat.zero_le _⟩
/-- How far they are one from behind. -/
def lastL (x y : List UInt8) : Nat := comL x.reverse y.reverse
theorem lastL_le (x y : List UInt8) : lastL x y ≤ x.length ∧ lastL x y ≤ y.length := by
  have := com_le x.reverse y.reverse
  simpa [lastL] using this
theorem rev_at {x : List UInt8} {k m : Nat} {a : UInt8} (h : x[m]? = some a) (hk : m + k + 1 = x.length) : x.reverse[k]? = some a := by
  rw [List.getElem?_reverse (by omega), ← h]; congr 1; omega
theorem byte_inj {a b : UInt8} (h : ((a.toNat : Nat) : Int) = ((b.toNat : Nat) : Int)) : a = b := UInt8.toNat_inj.1 (by omega)
theorem byte_ne {a b : UInt8} (h : ¬ ((a.toNat : Nat) : Int) = ((b.toNat : Nat) : Int)) : ¬ a = b := fun he => h (by rw [he])
/-- The edit from a text to another one. -/
def diffE (x y : ByteArray) : Ed :=
  ⟨((comL (B x) (B y) : Nat) : Int), (((B x).length - lastL ((B x).drop (comL (B x) (B y))) ((B y).drop (comL (B x) (B y))) : Nat) : Int), sub y (comL (B x) (B y)) ((B y).length - lastL ((B x).drop (comL (B x) (B y))) ((B y).drop (comL (B x) (B y))))⟩
theorem p_min {T : Tab} {ρ : Operand → Value} {s : St} {x y : Operand} {a b : TypeId} {m n : Nat} (hx : ρ x = .int .i64 (m : Int)) (hy : ρ y = .int .i64 (n : Int)) : evPlain T ρ (.call ⟨.builtin .min, #[x, y], #[a, b]⟩) s = some (.int .i64 ((min m n : Nat) : Int), s) := by
  show lift (minmax false [ρ x, ρ y]) s = _
  rw [hx, hy]
  unfold minmax minmaxFrom minmaxFrom
  simp only [Bool.false_eq_true, if_false, lift]
  by_cases h : n < m
  · rw [if_pos (by omega), Nat.min_eq_right (by omega)]
  · rw [if_neg (by omega), Nat.min_eq_left (by omega)]

/-- A patch with one edit, as it lies in memory: its edit's block. -/
structure Pv where
  file : ByteArray
  blk : Nat
  e : Ed
def Pv.cells (p : Pv) : List Value := [.string p.file, .slice (some ⟨p.blk, 0, none⟩) 1 1]
theorem Pv.one : ∀ y : Pv, ∀ v ∈ y.cells, oneCell v = true := by intro y v hv; simp [Pv.cells] at hv; rcases hv with rfl | rfl <;> rfl
/-- The patches' own rows. -/
def NE (t : Tree) (n : Nat) (l : List Pv) : Prop := ∀ p ∈ l, Row t n p.blk p.e.cells 97 0
theorem NE.nil {t : Tree} {n : Nat} : NE t n [] := fun _ h => by cases h
theorem NE.own {s s' : St} {l : List Pv} (h : NE s.t s.next l) (w : Own s s') : NE s'.t s'.next l := fun p hp => (h p hp).own w
theorem NE.oth {s s' : St} {l : List Pv} {X : TypeId → Bool} (h : NE s.t s.next l) (w : Oth X s s') (hX : X 97 = false) : NE s'.t s'.next l := fun p hp => w _ _ _ _ (h p hp) hX
theorem NE.snoc {t : Tree} {n : Nat} {l : List Pv} {p : Pv} (h : NE t n l) (r : Row t n p.blk p.e.cells 97 0) : NE t n (l ++ [p]) := fun q hq => by
  rcases List.mem_append.1 hq with hq | hq
  · exact h q hq
  · simp at hq; subst hq; exact r
/-- What a difference is: for each file that isn't the same, its edit. -/
def diffOf (a b : List Fl) : List (ByteArray × Ed) := ((a.zip b).filter fun p => decide (¬ (B p.1.nm = B p.2.nm ∧ B p.1.tx = B p.2.tx))).map fun p => (p.1.nm, diffE p.1.tx p.2.tx)
def keyP (p : Pv) : ByteArray × Ed := (p.file, p.e)
section
variable {T : Tab} {cx : Ctx} {fr : Fr} {s s0 : St} {ops : Array Oper} {bef : List Nat} {i : Nat} {o : Oper} {os : List Oper} {L : List (Nat × Nat × Nat)} {Q : Fr → St → Prop}
/-- An append of one element that has just been laid, ordered with all before it. -/
theorem E.appendO {α : Type} {c : α → List Value} {k b : Nat} {el sT xT : TypeId} {l : List α} {x : α} {v : Value} {X e2 h2 : Nat} {z : St} {p q : Operand} {fF : Value → Fr} (A : AppOk T sT xT el k b) (hc : ∀ y, (c y).length = k) (h1 : ∀ y, ∀ v ∈ c y, oneCell v = true) (hO : Own s0 s) (hz : Own z s) (hl : OL c k el s0.next z.t z.next v l)
    (hX : Row s.t s.next X (c x) e2 h2) (hw : Region.wanted o (yieldedL ops fr.tmps) = true) (ho : o.op = .call ⟨.builtin .append, #[p, q], #[sT, xT]⟩) (hp : fr.eval p = v) (hq : fr.eval q = .slice (some ⟨X, 0, none⟩) 1 1) (hh : hidL (bef.getD i 0) L = []) (hbits : ∀ j, j < i → (bef.getD i 0).testBit j = true) (hb : (l.length + 1) * b ≤ 140737488355328) (hb2 : l.length + 1 < 4611686018427387904)
    (hf : ∀ v', fr.put o.dst v' = fF v')
    (h : ∀ v' s1, Own s0 s1 → s.next ≤ s1.next → (∀ M, z.next ≤ M → M < s.next → s1.t.get M = s.t.get M) → OL c k el s0.next s1.t s1.next v' (l ++ [x]) → Oth (fun e => decide (e = el)) s s1 → EndsF T ops bef (i + 1) os (fF v') s1 Q) : EndsE T ops bef i (o :: os) L fr s Q := fun ds g1 g2 g3 => by
  have hc' : noCall o.op = true := by rw [ho]; rfl
  have hn : hiddenOf (bef.getD i 0) ds = [] := List.eq_nil_iff_forall_not_mem.2 fun p hp => by
    have := g2 _ p hp
    rw [hh] at this; cases this
  have hl' := hl.own hz
  have hX' : Row (⟨s.t, s.next, []⟩ : St).t s.next X (c x) e2 h2 := hX
  obtain ⟨v', s1, e1, e2', e3, ⟨m, e4, e4'⟩, e5⟩ := append_run (s := ⟨s.t, s.next, []⟩) A hc h1 hl' hO.next (xs := .slice (some ⟨X, 0, none⟩) 1 1) (ys := [x]) rfl (firstOne (hc x) hX') (by simpa using hb) (by simpa using hb2)
  have e4 : s1.mods = m := by rw [e4]; simp
  have e2' : s.next ≤ s1.next := e2'
  refine EndsDraw.big (v := v') (s1 := s1) hw (by unfold kindOf; rw [ho]) hc' (by unfold blkOf; rw [ho]) hn (List.all_eq_true.2 fun p hp => hbits _ (g3 p hp)) ?_ (fun N hN => ?_) e2' (fun M hM hne => ?_) (hf v') fun s2 k1 k2 k3 => ?_
  · rw [ho]
    show Ev.append T [sT, xT] [fr.eval p, fr.eval q] _ = _
    rw [hp, hq]; exact e1
  · have := hl'.struck (e4' N (e4 ▸ hN)); exact ⟨this.1, this.2.2⟩
  · by_cases hs : Struck v M
    · exact absurd (append_all (s := ⟨s.t, s.next, []⟩) A hc h1 hl' (ys := [x]) (xs := .slice (some ⟨X, 0, none⟩) 1 1) rfl (firstOne (hc x) hX') (by simpa using hb) (by simpa using hb2) e1 M hs) hne
    · exact e5 M hM hs
  · have e6 : ∀ M, M < s.next → ¬ Struck v M → s2.t.get M = s.t.get M := fun M hM hs => (k3 M (by omega)).trans (e5 M hM hs)
    have e7 : ∃ q, s2.mods = q ++ s.mods ∧ ∀ N ∈ q, Struck v N := ⟨s1.mods, k2, fun N hN => e4' N (e4 ▸ hN)⟩
    refine h v' s2 (Own.append hO hl' (Nat.le_refl _) (by omega) e7 e6) (by omega) (fun M hM hM2 => e6 M hM2 fun hs => ?_) (e3.same (by omega) k3) (fun M vs e hi r hx => ⟨(e6 M r.lt fun hs => ?_).trans r.get, by have := r.lt; omega⟩) _
    · have := (hl.struck hs).1; omega
    · obtain ⟨len, cap, he, hcap⟩ := hs
      obtain ⟨_, hl2⟩ := hl'
      rcases hl2 with ⟨_, a, h, _⟩ | ⟨N, h, hr, hN⟩
      · rw [he] at h; cases h; exact absurd hcap (by decide)
      · rw [he] at h; cases h
        have := r.get.symm.trans hr.get
        cases this; simp at hx
end
/-- A function whose result lies in cells of one's own. -/
theorem EndsPure.cellA {T : Tab} {f : FuncId} {n k : Nat} {body : Code} {a : Tmp} {t : TypeId} {args : List Value} {fr0 : Fr} {s : St} {R : Value → Tree → Nat → Prop} {d : TypeDesc} (hF : T.fn f = some ⟨n, body, [ResultVar.cell a t]⟩) (hd : T.und t = some d) (hda : isAggD d = true) (hk : T.size t = some k) (h0 : (⟨args ++ List.replicate (n - args.length) undef, []⟩ : Fr) = fr0)
    (h : Ends T ⟨f, none⟩ body fr0 s fun e fr s1 => isExit e = false ∧ fr.defers = [] ∧ Own s s1 ∧ ∃ N vs el hi cs, fr.tmps.getD a undef = .pointer (some ⟨N, 0, none⟩) ∧ Row s1.t s1.next N vs el hi ∧ Ev.slice vs 0 k = some cs ∧ R (.agg ⟨cs⟩) s1.t s1.next) : EndsPure T f args s R := by
  subst h0
  refine EndsCall.of hF (h.mono fun e fr s1 ⟨h1, h2, h3, N, vs, el, hi, cs, h4, h5, h6, h7⟩ => ⟨.agg ⟨cs⟩, s1, ?_, ⟨h3.next, h3.newMods, h3.old⟩, h7⟩)
  have res : (bnd (results T fr.tmps [ResultVar.cell a t]) fun vs => ret (valOf vs)) s1 = some (.agg ⟨cs⟩, s1) := by
    simp only [results, h4, bnd, loadVar, rowOf, h5.get, hd, hda, hk, h6, ret, if_true, valOf]
  cases e with
  | exit id => cases h1
  | normal => unfold finishCall; simp only [h2, takeDefers, bnd, ret]; exact res
  | ret => unfold finishCall; simp only [h2, takeDefers, bnd, ret]; exact res
theorem B_subFrom (x : ByteArray) (l : Nat) : B (sub x l (B x).length) = (B x).drop l := by
  rw [B_sub, List.take_of_length_le (by rw [List.length_drop]; exact Nat.le_refl _)]
/-- The same names, one behind the other. -/
def Named (a b : List Fl) : Prop := a.length = b.length ∧ ∀ (k : Nat) (f g : Fl), a[k]? = some f → b[k]? = some g → B f.nm = B g.nm
noncomputable instance (a b : List Fl) : Decidable (Named a b) := Classical.propDecidable _
end Go.Ev

/-
  EV: loops and cuts whose dead temporaries are told by one function.
-/
namespace Go.Ev
open Go Go.RowKit

/-- What a frame's temporaries hold. -/
def Jof (fr : Fr) (k : Nat) : Value := fr.tmps.getD k undef
section
variable {T : Tab} {cx : Ctx} {fr : Fr} {s : St}
theorem Ends.loopJ {b : Code} {Q : Ex → Fr → St → Prop} (I : Nat → (Nat → Value) → Fr → St → Prop) (h : ∀ n j fr s, I n j fr s → Ends T cx b fr s fun e fr' s' => match e with
    | .normal => ∃ m, m < n ∧ I m (Jof fr') fr' s'
    | e => Q e fr' s') : ∀ n fr s, I n (Jof fr) fr s → Ends T cx (.loop b) fr s Q := fun n fr s hI =>
  Ends.loopInv (fun n fr s => ∃ j, I n j fr s) (fun n fr s ⟨j, h1⟩ => (h n j fr s h1).mono fun e fr' s' h2 => by
    cases e with
    | normal => obtain ⟨m, h3, h4⟩ := h2; exact ⟨m, h3, _, h4⟩
    | ret => exact h2
    | exit i => exact h2) n fr s ⟨_, hI⟩
theorem Ends.cutJ {c : Code} {Q : Ex → Fr → St → Prop} (P : (Nat → Value) → Fr → St → Prop) (h : Ends T cx c fr s fun e fr s => e = .normal ∧ P (Jof fr) fr s) (h2 : ∀ j fr s, P j fr s → Q .normal fr s) : Ends T cx c fr s Q :=
  h.mono fun _ fr s ⟨h3, h4⟩ => by subst h3; exact h2 _ fr s h4
end
end Go.Ev

/-
  EV: contracts of the first seat's functions.
-/
namespace Go.Ev.R1
open Go Go.Ev Go.Proofs
set_option maxRecDepth 10000
set_option maxHeartbeats 4000000

theorem c92 (x y : ByteArray) (hx : (B x).length ≤ 140737488351232) (hy : (B y).length ≤ 140737488351232) (s : St) : EndsPure R1.T 92 [.string x, .string y] s (fun v _ _ => v = .int .i64 ((comL (B x) (B y) : Nat) : Int)) := by
  refine EndsPure.of (rs := [4]) (fr0 := ⟨[.string x, .string y, undef, undef, undef, undef, undef, undef, undef, undef, undef, undef, undef, undef, undef, undef, undef, undef, undef, undef, undef, undef, undef, undef, undef], []⟩) (by kernel_rfl : R1.T.fn 92 = some ⟨25, (Try.f92.body).getD .skip, [.tmp 4]⟩) rfl ?_
  have hO0 := Own.refl s
  simp only [Try.f92, Option.getD]
  refine Ends.seq ?_
  refine Ends.region ?_
  refine W.op (v := .int .i64 0) (fr1 := ⟨[_,_,_,_, .int .i64 0, _,_,_,_,_,_,_,_,_,_,_,_,_,_,_,_,_,_,_,_], []⟩) rfl rfl rfl rfl ?_
  refine EndsOps.nil ?_
  refine Ends.seq ?_
  refine Ends.region ?_
  refine W.op (v := .int .i64 0) (fr1 := ⟨[_,_,_,_,_, .int .i64 0, _,_,_,_,_,_,_,_,_,_,_,_,_,_,_,_,_,_,_], []⟩) rfl rfl rfl rfl ?_
  refine EndsOps.nil ?_
  refine Ends.seq ?_
  refine W.block ?_
  refine Ends.loopInv (fun d fr s1 => ∃ (n : Nat) (j6 j7 j8 j9 j10 j11 j12 j13 j14 j15 j16 j17 j18 j19 j20 j21 j22 j23 : Value), fr = ⟨[.string x, .string y, undef, undef, .int .i64 0, .int .i64 ((n : Nat) : Int), j6, j7, j8, j9, j10, j11, j12, j13, j14, j15, j16, j17, j18, j19, j20, j21, j22, j23, undef], []⟩ ∧ Own s s1 ∧ d = (B x).length - n ∧ (SameTo (B x) (B y) n)) ?_ _ _ _ ⟨0, _, _, _, _, _, _, _, _, _, _, _, _, _, _, _, _, _, _, rfl, hO0, rfl, SameTo.zero⟩
  rintro d _ s1 ⟨n, j6, j7, j8, j9, j10, j11, j12, j13, j14, j15, j16, j17, j18, j19, j20, j21, j22, j23, rfl, hO2, hd3, hs⟩
  refine Ends.seq ?_
  refine Ends.seq ?_
  refine Ends.drawW (bef := [0, 0, 2, 0, 8, 30, 63, 127, 255, 255, 1023, 255, 255, 6399, 16383, 32767]) (by kernel_rfl) ?_
  refine D.op (v := .int .i64 ((n : Nat) : Int)) (fr1 := ⟨[_,_,_,_,_,_, .int .i64 ((n : Nat) : Int), _,_,_,_,_,_,_,_,_,_,_,_,_,_,_,_,_,_], []⟩) rfl rfl rfl rfl rfl ?_
  refine D.op (v := .string x) (fr1 := ⟨[_,_,_,_,_,_,_, .string x, _,_,_,_,_,_,_,_,_,_,_,_,_,_,_,_,_], []⟩) rfl rfl rfl rfl rfl ?_
  refine D.op (v := .int .i64 (((B x).length : Nat) : Int)) (fr1 := ⟨[_,_,_,_,_,_,_,_, .int .i64 (((B x).length : Nat) : Int), _,_,_,_,_,_,_,_,_,_,_,_,_,_,_,_], []⟩) rfl rfl rfl rfl rfl ?_
  refine D.op (v := .string y) (fr1 := ⟨[_,_,_,_,_,_,_,_,_, .string y, _,_,_,_,_,_,_,_,_,_,_,_,_,_,_], []⟩) rfl rfl rfl rfl rfl ?_
  refine D.op (v := .int .i64 (((B y).length : Nat) : Int)) (fr1 := ⟨[_,_,_,_,_,_,_,_,_,_, .int .i64 (((B y).length : Nat) : Int), _,_,_,_,_,_,_,_,_,_,_,_,_,_], []⟩) rfl rfl rfl rfl rfl ?_
  refine D.op (v := .int .i64 ((min ((B x).length) ((B y).length) : Nat) : Int)) (fr1 := ⟨[_,_,_,_,_,_,_,_,_,_,_, .int .i64 ((min ((B x).length) ((B y).length) : Nat) : Int), _,_,_,_,_,_,_,_,_,_,_,_,_], []⟩) rfl (p_min rfl rfl) rfl rfl rfl ?_
  by_cases h4 : ((n : Nat) : Int) < ((min ((B x).length) ((B y).length) : Nat) : Int)
  · skip
    refine D.op (v := .bool true) (fr1 := ⟨[_,_,_,_,_,_,_,_,_,_,_,_, .bool true, _,_,_,_,_,_,_,_,_,_,_,_], []⟩) rfl (p_bin (ltT h4)) rfl rfl rfl ?_
    refine D.op (v := .bool true) (fr1 := ⟨[_,_,_,_,_,_,_,_,_,_,_,_,_, .bool true, _,_,_,_,_,_,_,_,_,_,_], []⟩) rfl rfl rfl rfl rfl ?_
    refine D.op (v := .string x) (fr1 := ⟨[_,_,_,_,_,_,_,_,_,_,_,_,_,_, .string x, _,_,_,_,_,_,_,_,_,_], []⟩) rfl rfl rfl rfl rfl ?_
    refine D.op (v := .int .i64 ((n : Nat) : Int)) (fr1 := ⟨[_,_,_,_,_,_,_,_,_,_,_,_,_,_,_, .int .i64 ((n : Nat) : Int), _,_,_,_,_,_,_,_,_], []⟩) rfl rfl rfl rfl rfl ?_
    obtain ⟨e5, he6⟩ := ex_at (l := B x) (i := n) (by omega)
    refine D.op (v := .int .u8 ((e5.toNat : Nat) : Int)) (fr1 := ⟨[_,_,_,_,_,_,_,_,_,_,_,_,_,_,_,_, .int .u8 ((e5.toNat : Nat) : Int), _,_,_,_,_,_,_,_], []⟩) rfl (p_idxS rfl rfl rfl he6) rfl rfl rfl ?_
    refine D.op (v := .string y) (fr1 := ⟨[_,_,_,_,_,_,_,_,_,_,_,_,_,_,_,_,_, .string y, _,_,_,_,_,_,_], []⟩) rfl rfl rfl rfl rfl ?_
    refine D.op (v := .int .i64 ((n : Nat) : Int)) (fr1 := ⟨[_,_,_,_,_,_,_,_,_,_,_,_,_,_,_,_,_,_, .int .i64 ((n : Nat) : Int), _,_,_,_,_,_], []⟩) rfl rfl rfl rfl rfl ?_
    obtain ⟨e7, he8⟩ := ex_at (l := B y) (i := n) (by omega)
    refine D.op (v := .int .u8 ((e7.toNat : Nat) : Int)) (fr1 := ⟨[_,_,_,_,_,_,_,_,_,_,_,_,_,_,_,_,_,_,_, .int .u8 ((e7.toNat : Nat) : Int), _,_,_,_,_], []⟩) rfl (p_idxS rfl rfl rfl he8) rfl rfl rfl ?_
    by_cases h9 : ((e5.toNat : Nat) : Int) = ((e7.toNat : Nat) : Int)
    · skip
      refine D.op (v := .bool true) (fr1 := ⟨[_,_,_,_,_,_,_,_,_,_,_,_,_,_,_,_,_,_,_,_, .bool true, _,_,_,_], []⟩) rfl (p_bin (eqT h9)) rfl rfl rfl ?_
      refine D.op (v := .bool true) (fr1 := ⟨[_,_,_,_,_,_,_,_,_,_,_,_,_,_,_,_,_,_,_,_,_, .bool true, _,_,_], []⟩) rfl rfl rfl rfl rfl ?_
      refine D.nil ?_
      refine Ends.condT rfl ?_
      refine Ends.skip ?_
      refine W.block ?_
      refine Ends.region ?_
      refine W.op (v := .int .i64 ((n : Nat) : Int)) (fr1 := ⟨[_,_,_,_,_,_,_,_,_,_,_,_,_,_,_,_,_,_,_,_,_,_, .int .i64 ((n : Nat) : Int), _,_], []⟩) rfl rfl rfl rfl ?_
      refine W.op (v := .int .i64 ((n + 1 : Nat) : Int)) (fr1 := ⟨[_,_,_,_,_,_,_,_,_,_,_,_,_,_,_,_,_,_,_,_,_,_,_, .int .i64 ((n + 1 : Nat) : Int), _], []⟩) rfl (p_bin (addI (by omega) (by omega) (by omega))) rfl rfl ?_
      refine W.op (v := .int .i64 ((n + 1 : Nat) : Int)) (fr1 := ⟨[_,_,_,_,_, .int .i64 ((n + 1 : Nat) : Int), _,_,_,_,_,_,_,_,_,_,_,_,_,_,_,_,_,_,_], []⟩) rfl rfl rfl rfl ?_
      refine EndsOps.nil ?_
      exact ⟨_, (by omega), n + 1, _, _, _, _, _, _, _, _, _, _, _, _, _, _, _, _, _, _, rfl, hO2, rfl, hs.step he6 he8 (byte_inj h9)⟩
    · skip
      refine D.op (v := .bool false) (fr1 := ⟨[_,_,_,_,_,_,_,_,_,_,_,_,_,_,_,_,_,_,_,_, .bool false, _,_,_,_], []⟩) rfl (p_bin (eqF h9)) rfl rfl rfl ?_
      refine D.op (v := .bool false) (fr1 := ⟨[_,_,_,_,_,_,_,_,_,_,_,_,_,_,_,_,_,_,_,_,_, .bool false, _,_,_], []⟩) rfl rfl rfl rfl rfl ?_
      refine D.nil ?_
      refine Ends.condF rfl ?_
      refine Ends.exit ?_
      refine W.outT rfl ?_
      refine Ends.seq ?_
      refine Ends.region ?_
      refine W.op (v := .int .i64 ((n : Nat) : Int)) (fr1 := ⟨[_,_,_,_,_,_,_,_,_,_,_,_,_,_,_,_,_,_,_,_,_,_,_,_, .int .i64 ((n : Nat) : Int)], []⟩) rfl rfl rfl rfl ?_
      refine W.op (v := .int .i64 ((n : Nat) : Int)) (fr1 := ⟨[_,_,_,_, .int .i64 ((n : Nat) : Int), _,_,_,_,_,_,_,_,_,_,_,_,_,_,_,_,_,_,_,_], []⟩) rfl rfl rfl rfl ?_
      refine EndsOps.nil ?_
      refine Ends.ret ?_
      exact ⟨rfl, rfl, hO2, by
        show Value.int .i64 ((n : Nat) : Int) = Value.int .i64 ((comL (B x) (B y) : Nat) : Int)
        rw [com_at hs fun a b ha hb => by rw [he6] at ha; rw [he8] at hb; cases ha; cases hb; exact byte_ne h9]⟩
  · skip
    refine D.op (v := .bool false) (fr1 := ⟨[_,_,_,_,_,_,_,_,_,_,_,_, .bool false, _,_,_,_,_,_,_,_,_,_,_,_], []⟩) rfl (p_bin (ltF h4)) rfl rfl rfl ?_
    refine D.op (v := .bool false) (fr1 := ⟨[_,_,_,_,_,_,_,_,_,_,_,_,_, .bool false, _,_,_,_,_,_,_,_,_,_,_], []⟩) rfl rfl rfl rfl rfl ?_
    refine D.skip (fr1 := ⟨[_,_,_,_,_,_,_,_,_,_,_,_,_,_, undef, _,_,_,_,_,_,_,_,_,_], []⟩) rfl rfl ?_
    refine D.skip (fr1 := ⟨[_,_,_,_,_,_,_,_,_,_,_,_,_,_,_, undef, _,_,_,_,_,_,_,_,_], []⟩) rfl rfl ?_
    refine D.skip (fr1 := ⟨[_,_,_,_,_,_,_,_,_,_,_,_,_,_,_,_, undef, _,_,_,_,_,_,_,_], []⟩) rfl rfl ?_
    refine D.skip (fr1 := ⟨[_,_,_,_,_,_,_,_,_,_,_,_,_,_,_,_,_, undef, _,_,_,_,_,_,_], []⟩) rfl rfl ?_
    refine D.skip (fr1 := ⟨[_,_,_,_,_,_,_,_,_,_,_,_,_,_,_,_,_,_, undef, _,_,_,_,_,_], []⟩) rfl rfl ?_
    refine D.skip (fr1 := ⟨[_,_,_,_,_,_,_,_,_,_,_,_,_,_,_,_,_,_,_, undef, _,_,_,_,_], []⟩) rfl rfl ?_
    refine D.skip (fr1 := ⟨[_,_,_,_,_,_,_,_,_,_,_,_,_,_,_,_,_,_,_,_, undef, _,_,_,_], []⟩) rfl rfl ?_
    refine D.op (v := .bool false) (fr1 := ⟨[_,_,_,_,_,_,_,_,_,_,_,_,_,_,_,_,_,_,_,_,_, .bool false, _,_,_], []⟩) rfl rfl rfl rfl rfl ?_
    refine D.nil ?_
    refine Ends.condF rfl ?_
    refine Ends.exit ?_
    refine W.outT rfl ?_
    refine Ends.seq ?_
    refine Ends.region ?_
    refine W.op (v := .int .i64 ((n : Nat) : Int)) (fr1 := ⟨[_,_,_,_,_,_,_,_,_,_,_,_,_,_,_,_,_,_,_,_,_,_,_,_, .int .i64 ((n : Nat) : Int)], []⟩) rfl rfl rfl rfl ?_
    refine W.op (v := .int .i64 ((n : Nat) : Int)) (fr1 := ⟨[_,_,_,_, .int .i64 ((n : Nat) : Int), _,_,_,_,_,_,_,_,_,_,_,_,_,_,_,_,_,_,_,_], []⟩) rfl rfl rfl rfl ?_
    refine EndsOps.nil ?_
    refine Ends.ret ?_
    exact ⟨rfl, rfl, hO2, by
      show Value.int .i64 ((n : Nat) : Int) = Value.int .i64 ((comL (B x) (B y) : Nat) : Int)
      rw [com_at hs fun a b ha hb => by have h1 := (List.getElem?_eq_some_iff.1 ha).1; have h2 := (List.getElem?_eq_some_iff.1 hb).1; omega]⟩

theorem c93 (x y : ByteArray) (hx : (B x).length ≤ 140737488351232) (hy : (B y).length ≤ 140737488351232) (s : St) : EndsPure R1.T 93 [.string x, .string y] s (fun v _ _ => v = .int .i64 ((lastL (B x) (B y) : Nat) : Int)) := by
  refine EndsPure.of (rs := [4]) (fr0 := ⟨[.string x, .string y, undef, undef, undef, undef, undef, undef, undef, undef, undef, undef, undef, undef, undef, undef, undef, undef, undef, undef, undef, undef, undef, undef, undef, undef, undef, undef, undef, undef, undef, undef, undef], []⟩) (by kernel_rfl : R1.T.fn 93 = some ⟨33, (Try.f93.body).getD .skip, [.tmp 4]⟩) rfl ?_
  have hO0 := Own.refl s
  simp only [Try.f93, Option.getD]
  refine Ends.seq ?_
  refine Ends.region ?_
  refine W.op (v := .int .i64 0) (fr1 := ⟨[_,_,_,_, .int .i64 0, _,_,_,_,_,_,_,_,_,_,_,_,_,_,_,_,_,_,_,_,_,_,_,_,_,_,_,_], []⟩) rfl rfl rfl rfl ?_
  refine EndsOps.nil ?_
  refine Ends.seq ?_
  refine Ends.region ?_
  refine W.op (v := .int .i64 0) (fr1 := ⟨[_,_,_,_,_, .int .i64 0, _,_,_,_,_,_,_,_,_,_,_,_,_,_,_,_,_,_,_,_,_,_,_,_,_,_,_], []⟩) rfl rfl rfl rfl ?_
  refine EndsOps.nil ?_
  refine Ends.seq ?_
  refine W.block ?_
  refine Ends.loopJ (fun d jf1 fr s1 => ∃ (n : Nat), fr = ⟨[.string x, .string y, undef, undef, .int .i64 0, .int .i64 ((n : Nat) : Int), (jf1 6), (jf1 7), (jf1 8), (jf1 9), (jf1 10), (jf1 11), (jf1 12), (jf1 13), (jf1 14), (jf1 15), (jf1 16), (jf1 17), (jf1 18), (jf1 19), (jf1 20), (jf1 21), (jf1 22), (jf1 23), (jf1 24), (jf1 25), (jf1 26), (jf1 27), (jf1 28), (jf1 29), (jf1 30), (jf1 31), undef], []⟩ ∧ Own s s1 ∧ d = (B x).length - n ∧ (SameTo (B x).reverse (B y).reverse n)) ?_ _ _ _ ⟨0, (by kernel_rfl), hO0, rfl, SameTo.zero⟩
  rintro d jf1 _ s2 ⟨n, rfl, hO3, hd4, hs⟩
  refine Ends.seq ?_
  refine Ends.seq ?_
  refine Ends.drawW (bef := [0, 0, 2, 0, 8, 30, 63, 127, 255, 255, 767, 1791, 255, 7935, 16383, 255, 255, 65791, 196863, 255, 983295, 2064639, 4194303, 8388607]) (by kernel_rfl) ?_
  refine D.op (v := .int .i64 ((n : Nat) : Int)) (fr1 := ⟨[_,_,_,_,_,_, .int .i64 ((n : Nat) : Int), _,_,_,_,_,_,_,_,_,_,_,_,_,_,_,_,_,_,_,_,_,_,_,_,_,_], []⟩) rfl rfl rfl rfl rfl ?_
  refine D.op (v := .string x) (fr1 := ⟨[_,_,_,_,_,_,_, .string x, _,_,_,_,_,_,_,_,_,_,_,_,_,_,_,_,_,_,_,_,_,_,_,_,_], []⟩) rfl rfl rfl rfl rfl ?_
  refine D.op (v := .int .i64 (((B x).length : Nat) : Int)) (fr1 := ⟨[_,_,_,_,_,_,_,_, .int .i64 (((B x).length : Nat) : Int), _,_,_,_,_,_,_,_,_,_,_,_,_,_,_,_,_,_,_,_,_,_,_,_], []⟩) rfl rfl rfl rfl rfl ?_
  refine D.op (v := .string y) (fr1 := ⟨[_,_,_,_,_,_,_,_,_, .string y, _,_,_,_,_,_,_,_,_,_,_,_,_,_,_,_,_,_,_,_,_,_,_], []⟩) rfl rfl rfl rfl rfl ?_
  refine D.op (v := .int .i64 (((B y).length : Nat) : Int)) (fr1 := ⟨[_,_,_,_,_,_,_,_,_,_, .int .i64 (((B y).length : Nat) : Int), _,_,_,_,_,_,_,_,_,_,_,_,_,_,_,_,_,_,_,_,_,_], []⟩) rfl rfl rfl rfl rfl ?_
  refine D.op (v := .int .i64 ((min ((B x).length) ((B y).length) : Nat) : Int)) (fr1 := ⟨[_,_,_,_,_,_,_,_,_,_,_, .int .i64 ((min ((B x).length) ((B y).length) : Nat) : Int), _,_,_,_,_,_,_,_,_,_,_,_,_,_,_,_,_,_,_,_,_], []⟩) rfl (p_min rfl rfl) rfl rfl rfl ?_
  by_cases h5 : ((n : Nat) : Int) < ((min ((B x).length) ((B y).length) : Nat) : Int)
  · skip
    refine D.op (v := .bool true) (fr1 := ⟨[_,_,_,_,_,_,_,_,_,_,_,_, .bool true, _,_,_,_,_,_,_,_,_,_,_,_,_,_,_,_,_,_,_,_], []⟩) rfl (p_bin (ltT h5)) rfl rfl rfl ?_
    refine D.op (v := .bool true) (fr1 := ⟨[_,_,_,_,_,_,_,_,_,_,_,_,_, .bool true, _,_,_,_,_,_,_,_,_,_,_,_,_,_,_,_,_,_,_], []⟩) rfl rfl rfl rfl rfl ?_
    refine D.op (v := .string x) (fr1 := ⟨[_,_,_,_,_,_,_,_,_,_,_,_,_,_, .string x, _,_,_,_,_,_,_,_,_,_,_,_,_,_,_,_,_,_], []⟩) rfl rfl rfl rfl rfl ?_
    refine D.op (v := .string x) (fr1 := ⟨[_,_,_,_,_,_,_,_,_,_,_,_,_,_,_, .string x, _,_,_,_,_,_,_,_,_,_,_,_,_,_,_,_,_], []⟩) rfl rfl rfl rfl rfl ?_
    refine D.op (v := .int .i64 (((B x).length : Nat) : Int)) (fr1 := ⟨[_,_,_,_,_,_,_,_,_,_,_,_,_,_,_,_, .int .i64 (((B x).length : Nat) : Int), _,_,_,_,_,_,_,_,_,_,_,_,_,_,_,_], []⟩) rfl rfl rfl rfl rfl ?_
    obtain ⟨q6, hq7⟩ : ∃ z0 : Nat, (z0 : Int) = (((B x).length : Nat) : Int) - 1 := ⟨((B x).length - 1), by omega⟩
    refine D.op (v := .int .i64 ((q6 : Nat) : Int)) (fr1 := ⟨[_,_,_,_,_,_,_,_,_,_,_,_,_,_,_,_,_, .int .i64 ((q6 : Nat) : Int), _,_,_,_,_,_,_,_,_,_,_,_,_,_,_], []⟩) rfl (p_bin (subI (by omega) (by omega) (by omega))) rfl rfl rfl ?_
    refine D.op (v := .int .i64 ((n : Nat) : Int)) (fr1 := ⟨[_,_,_,_,_,_,_,_,_,_,_,_,_,_,_,_,_,_, .int .i64 ((n : Nat) : Int), _,_,_,_,_,_,_,_,_,_,_,_,_,_], []⟩) rfl rfl rfl rfl rfl ?_
    obtain ⟨q8, hq9⟩ : ∃ z0 : Nat, (z0 : Int) = ((q6 : Nat) : Int) - ((n : Nat) : Int) := ⟨(q6 - n), by omega⟩
    refine D.op (v := .int .i64 ((q8 : Nat) : Int)) (fr1 := ⟨[_,_,_,_,_,_,_,_,_,_,_,_,_,_,_,_,_,_,_, .int .i64 ((q8 : Nat) : Int), _,_,_,_,_,_,_,_,_,_,_,_,_], []⟩) rfl (p_bin (subI (by omega) (by omega) (by omega))) rfl rfl rfl ?_
    obtain ⟨e10, he11⟩ := ex_at (l := B x) (i := q8) (by omega)
    refine D.op (v := .int .u8 ((e10.toNat : Nat) : Int)) (fr1 := ⟨[_,_,_,_,_,_,_,_,_,_,_,_,_,_,_,_,_,_,_,_, .int .u8 ((e10.toNat : Nat) : Int), _,_,_,_,_,_,_,_,_,_,_,_], []⟩) rfl (p_idxS rfl rfl rfl he11) rfl rfl rfl ?_
    refine D.op (v := .string y) (fr1 := ⟨[_,_,_,_,_,_,_,_,_,_,_,_,_,_,_,_,_,_,_,_,_, .string y, _,_,_,_,_,_,_,_,_,_,_], []⟩) rfl rfl rfl rfl rfl ?_
    refine D.op (v := .string y) (fr1 := ⟨[_,_,_,_,_,_,_,_,_,_,_,_,_,_,_,_,_,_,_,_,_,_, .string y, _,_,_,_,_,_,_,_,_,_], []⟩) rfl rfl rfl rfl rfl ?_
    refine D.op (v := .int .i64 (((B y).length : Nat) : Int)) (fr1 := ⟨[_,_,_,_,_,_,_,_,_,_,_,_,_,_,_,_,_,_,_,_,_,_,_, .int .i64 (((B y).length : Nat) : Int), _,_,_,_,_,_,_,_,_], []⟩) rfl rfl rfl rfl rfl ?_
    obtain ⟨q12, hq13⟩ : ∃ z0 : Nat, (z0 : Int) = (((B y).length : Nat) : Int) - 1 := ⟨((B y).length - 1), by omega⟩
    refine D.op (v := .int .i64 ((q12 : Nat) : Int)) (fr1 := ⟨[_,_,_,_,_,_,_,_,_,_,_,_,_,_,_,_,_,_,_,_,_,_,_,_, .int .i64 ((q12 : Nat) : Int), _,_,_,_,_,_,_,_], []⟩) rfl (p_bin (subI (by omega) (by omega) (by omega))) rfl rfl rfl ?_
    refine D.op (v := .int .i64 ((n : Nat) : Int)) (fr1 := ⟨[_,_,_,_,_,_,_,_,_,_,_,_,_,_,_,_,_,_,_,_,_,_,_,_,_, .int .i64 ((n : Nat) : Int), _,_,_,_,_,_,_], []⟩) rfl rfl rfl rfl rfl ?_
    obtain ⟨q14, hq15⟩ : ∃ z0 : Nat, (z0 : Int) = ((q12 : Nat) : Int) - ((n : Nat) : Int) := ⟨(q12 - n), by omega⟩
    refine D.op (v := .int .i64 ((q14 : Nat) : Int)) (fr1 := ⟨[_,_,_,_,_,_,_,_,_,_,_,_,_,_,_,_,_,_,_,_,_,_,_,_,_,_, .int .i64 ((q14 : Nat) : Int), _,_,_,_,_,_], []⟩) rfl (p_bin (subI (by omega) (by omega) (by omega))) rfl rfl rfl ?_
    obtain ⟨e16, he17⟩ := ex_at (l := B y) (i := q14) (by omega)
    refine D.op (v := .int .u8 ((e16.toNat : Nat) : Int)) (fr1 := ⟨[_,_,_,_,_,_,_,_,_,_,_,_,_,_,_,_,_,_,_,_,_,_,_,_,_,_,_, .int .u8 ((e16.toNat : Nat) : Int), _,_,_,_,_], []⟩) rfl (p_idxS rfl rfl rfl he17) rfl rfl rfl ?_
    by_cases h18 : ((e10.toNat : Nat) : Int) = ((e16.toNat : Nat) : Int)
    · skip
      refine D.op (v := .bool true) (fr1 := ⟨[_,_,_,_,_,_,_,_,_,_,_,_,_,_,_,_,_,_,_,_,_,_,_,_,_,_,_,_, .bool true, _,_,_,_], []⟩) rfl (p_bin (eqT h18)) rfl rfl rfl ?_
      refine D.op (v := .bool true) (fr1 := ⟨[_,_,_,_,_,_,_,_,_,_,_,_,_,_,_,_,_,_,_,_,_,_,_,_,_,_,_,_,_, .bool true, _,_,_], []⟩) rfl rfl rfl rfl rfl ?_
      refine D.nil ?_
      refine Ends.condT rfl ?_
      refine Ends.skip ?_
      refine W.block ?_
      refine Ends.region ?_
      refine W.op (v := .int .i64 ((n : Nat) : Int)) (fr1 := ⟨[_,_,_,_,_,_,_,_,_,_,_,_,_,_,_,_,_,_,_,_,_,_,_,_,_,_,_,_,_,_, .int .i64 ((n : Nat) : Int), _,_], []⟩) rfl rfl rfl rfl ?_
      refine W.op (v := .int .i64 ((n + 1 : Nat) : Int)) (fr1 := ⟨[_,_,_,_,_,_,_,_,_,_,_,_,_,_,_,_,_,_,_,_,_,_,_,_,_,_,_,_,_,_,_, .int .i64 ((n + 1 : Nat) : Int), _], []⟩) rfl (p_bin (addI (by omega) (by omega) (by omega))) rfl rfl ?_
      refine W.op (v := .int .i64 ((n + 1 : Nat) : Int)) (fr1 := ⟨[_,_,_,_,_, .int .i64 ((n + 1 : Nat) : Int), _,_,_,_,_,_,_,_,_,_,_,_,_,_,_,_,_,_,_,_,_,_,_,_,_,_,_], []⟩) rfl rfl rfl rfl ?_
      refine EndsOps.nil ?_
      exact ⟨_, (by omega), n + 1, (by kernel_rfl), hO3, rfl, hs.step (rev_at he11 (by omega)) (rev_at he17 (by omega)) (byte_inj h18)⟩
    · skip
      refine D.op (v := .bool false) (fr1 := ⟨[_,_,_,_,_,_,_,_,_,_,_,_,_,_,_,_,_,_,_,_,_,_,_,_,_,_,_,_, .bool false, _,_,_,_], []⟩) rfl (p_bin (eqF h18)) rfl rfl rfl ?_
      refine D.op (v := .bool false) (fr1 := ⟨[_,_,_,_,_,_,_,_,_,_,_,_,_,_,_,_,_,_,_,_,_,_,_,_,_,_,_,_,_, .bool false, _,_,_], []⟩) rfl rfl rfl rfl rfl ?_
      refine D.nil ?_
      refine Ends.condF rfl ?_
      refine Ends.exit ?_
      refine W.outT rfl ?_
      refine Ends.seq ?_
      refine Ends.region ?_
      refine W.op (v := .int .i64 ((n : Nat) : Int)) (fr1 := ⟨[_,_,_,_,_,_,_,_,_,_,_,_,_,_,_,_,_,_,_,_,_,_,_,_,_,_,_,_,_,_,_,_, .int .i64 ((n : Nat) : Int)], []⟩) rfl rfl rfl rfl ?_
      refine W.op (v := .int .i64 ((n : Nat) : Int)) (fr1 := ⟨[_,_,_,_, .int .i64 ((n : Nat) : Int), _,_,_,_,_,_,_,_,_,_,_,_,_,_,_,_,_,_,_,_,_,_,_,_,_,_,_,_], []⟩) rfl rfl rfl rfl ?_
      refine EndsOps.nil ?_
      refine Ends.ret ?_
      exact ⟨rfl, rfl, hO3, by
        show Value.int .i64 ((n : Nat) : Int) = Value.int .i64 ((lastL (B x) (B y) : Nat) : Int)
        exact congrArg (fun z : Nat => Value.int IntKind.i64 (z : Int)) (com_at hs fun a b ha hb => by rw [(rev_at he11 (by omega))] at ha; rw [(rev_at he17 (by omega))] at hb; cases ha; cases hb; exact byte_ne h18).symm⟩
  · skip
    refine D.op (v := .bool false) (fr1 := ⟨[_,_,_,_,_,_,_,_,_,_,_,_, .bool false, _,_,_,_,_,_,_,_,_,_,_,_,_,_,_,_,_,_,_,_], []⟩) rfl (p_bin (ltF h5)) rfl rfl rfl ?_
    refine D.op (v := .bool false) (fr1 := ⟨[_,_,_,_,_,_,_,_,_,_,_,_,_, .bool false, _,_,_,_,_,_,_,_,_,_,_,_,_,_,_,_,_,_,_], []⟩) rfl rfl rfl rfl rfl ?_
    refine D.skip (fr1 := ⟨[_,_,_,_,_,_,_,_,_,_,_,_,_,_, undef, _,_,_,_,_,_,_,_,_,_,_,_,_,_,_,_,_,_], []⟩) rfl rfl ?_
    refine D.skip (fr1 := ⟨[_,_,_,_,_,_,_,_,_,_,_,_,_,_,_, undef, _,_,_,_,_,_,_,_,_,_,_,_,_,_,_,_,_], []⟩) rfl rfl ?_
    refine D.skip (fr1 := ⟨[_,_,_,_,_,_,_,_,_,_,_,_,_,_,_,_, undef, _,_,_,_,_,_,_,_,_,_,_,_,_,_,_,_], []⟩) rfl rfl ?_
    refine D.skip (fr1 := ⟨[_,_,_,_,_,_,_,_,_,_,_,_,_,_,_,_,_, undef, _,_,_,_,_,_,_,_,_,_,_,_,_,_,_], []⟩) rfl rfl ?_
    refine D.skip (fr1 := ⟨[_,_,_,_,_,_,_,_,_,_,_,_,_,_,_,_,_,_, undef, _,_,_,_,_,_,_,_,_,_,_,_,_,_], []⟩) rfl rfl ?_
    refine D.skip (fr1 := ⟨[_,_,_,_,_,_,_,_,_,_,_,_,_,_,_,_,_,_,_, undef, _,_,_,_,_,_,_,_,_,_,_,_,_], []⟩) rfl rfl ?_
    refine D.skip (fr1 := ⟨[_,_,_,_,_,_,_,_,_,_,_,_,_,_,_,_,_,_,_,_, undef, _,_,_,_,_,_,_,_,_,_,_,_], []⟩) rfl rfl ?_
    refine D.skip (fr1 := ⟨[_,_,_,_,_,_,_,_,_,_,_,_,_,_,_,_,_,_,_,_,_, undef, _,_,_,_,_,_,_,_,_,_,_], []⟩) rfl rfl ?_
    refine D.skip (fr1 := ⟨[_,_,_,_,_,_,_,_,_,_,_,_,_,_,_,_,_,_,_,_,_,_, undef, _,_,_,_,_,_,_,_,_,_], []⟩) rfl rfl ?_
    refine D.skip (fr1 := ⟨[_,_,_,_,_,_,_,_,_,_,_,_,_,_,_,_,_,_,_,_,_,_,_, undef, _,_,_,_,_,_,_,_,_], []⟩) rfl rfl ?_
    refine D.skip (fr1 := ⟨[_,_,_,_,_,_,_,_,_,_,_,_,_,_,_,_,_,_,_,_,_,_,_,_, undef, _,_,_,_,_,_,_,_], []⟩) rfl rfl ?_
    refine D.skip (fr1 := ⟨[_,_,_,_,_,_,_,_,_,_,_,_,_,_,_,_,_,_,_,_,_,_,_,_,_, undef, _,_,_,_,_,_,_], []⟩) rfl rfl ?_
    refine D.skip (fr1 := ⟨[_,_,_,_,_,_,_,_,_,_,_,_,_,_,_,_,_,_,_,_,_,_,_,_,_,_, undef, _,_,_,_,_,_], []⟩) rfl rfl ?_
    refine D.skip (fr1 := ⟨[_,_,_,_,_,_,_,_,_,_,_,_,_,_,_,_,_,_,_,_,_,_,_,_,_,_,_, undef, _,_,_,_,_], []⟩) rfl rfl ?_
    refine D.skip (fr1 := ⟨[_,_,_,_,_,_,_,_,_,_,_,_,_,_,_,_,_,_,_,_,_,_,_,_,_,_,_,_, undef, _,_,_,_], []⟩) rfl rfl ?_
    refine D.op (v := .bool false) (fr1 := ⟨[_,_,_,_,_,_,_,_,_,_,_,_,_,_,_,_,_,_,_,_,_,_,_,_,_,_,_,_,_, .bool false, _,_,_], []⟩) rfl rfl rfl rfl rfl ?_
    refine D.nil ?_
    refine Ends.condF rfl ?_
    refine Ends.exit ?_
    refine W.outT rfl ?_
    refine Ends.seq ?_
    refine Ends.region ?_
    refine W.op (v := .int .i64 ((n : Nat) : Int)) (fr1 := ⟨[_,_,_,_,_,_,_,_,_,_,_,_,_,_,_,_,_,_,_,_,_,_,_,_,_,_,_,_,_,_,_,_, .int .i64 ((n : Nat) : Int)], []⟩) rfl rfl rfl rfl ?_
    refine W.op (v := .int .i64 ((n : Nat) : Int)) (fr1 := ⟨[_,_,_,_, .int .i64 ((n : Nat) : Int), _,_,_,_,_,_,_,_,_,_,_,_,_,_,_,_,_,_,_,_,_,_,_,_,_,_,_,_], []⟩) rfl rfl rfl rfl ?_
    refine EndsOps.nil ?_
    refine Ends.ret ?_
    exact ⟨rfl, rfl, hO3, by
      show Value.int .i64 ((n : Nat) : Int) = Value.int .i64 ((lastL (B x) (B y) : Nat) : Int)
      exact congrArg (fun z : Nat => Value.int IntKind.i64 (z : Int)) (com_at hs fun a b ha hb => by have h1 := (List.getElem?_eq_some_iff.1 ha).1; have h2 := (List.getElem?_eq_some_iff.1 hb).1; simp only [List.length_reverse] at h1 h2; omega).symm⟩

theorem c79 (x y : ByteArray) (hx : (B x).length ≤ 140737488351232) (hy : (B y).length ≤ 140737488351232) (s : St) : EndsPure R1.T 79 [.string x, .string y] s (fun v _ _ => v = .agg ⟨(diffE x y).cells⟩) := by
  refine EndsPure.cellA (fr0 := ⟨[.string x, .string y, undef, undef, undef, undef, undef, undef, undef, undef, undef, undef, undef, undef, undef, undef, undef, undef, undef, undef, undef, undef, undef, undef, undef, undef, undef, undef, undef, undef], []⟩) (by kernel_rfl : R1.T.fn 79 = some ⟨30, (Try.f79.body).getD .skip, [.cell 4 97]⟩) rfl rfl rfl rfl ?_
  have hO0 := Own.refl s
  simp only [Try.f79, Option.getD]
  refine Ends.seq ?_
  refine Ends.region ?_
  obtain ⟨N1, hN2⟩ : ∃ N, N = s.next := ⟨_, rfl⟩
  refine W.new (N := N1) (vs := [.int .i64 0, .int .i64 0, .string ByteArray.empty]) (fr1 := ⟨[_,_,_,_, .pointer (some ⟨N1, 0, none⟩), _,_,_,_,_,_,_,_,_,_,_,_,_,_,_,_,_,_,_,_,_,_,_,_,_], []⟩) hO0 hN2 rfl (p_alloc zero97 rfl) rfl rfl ?_
  intro s3 hO4 hS5 r6 hB7
  refine EndsOps.nil ?_
  refine Ends.seq ?_
  refine Ends.region ?_
  refine W.op (v := .string x) (fr1 := ⟨[_,_,_,_,_,_,_, .string x, _,_,_,_,_,_,_,_,_,_,_,_,_,_,_,_,_,_,_,_,_,_], []⟩) rfl rfl rfl rfl ?_
  refine W.op (v := .string y) (fr1 := ⟨[_,_,_,_,_,_,_,_, .string y, _,_,_,_,_,_,_,_,_,_,_,_,_,_,_,_,_,_,_,_,_], []⟩) rfl rfl rfl rfl ?_
  have hc := com_le (B x) (B y)
  refine W.call (ar := [.string x, .string y]) (X := .int .i64 (((comL (B x) (B y)) : Nat) : Int)) (fr1 := ⟨[_,_,_,_,_,_,_,_,_, .int .i64 (((comL (B x) (B y)) : Nat) : Int), _,_,_,_,_,_,_,_,_,_,_,_,_,_,_,_,_,_,_,_], []⟩) hO4 rfl rfl rfl rfl (c92 x y hx hy _) rfl ?_
  intro s8 hO9 hS10
  have r11 := r6.own hS10
  refine W.op (v := .int .i64 (((comL (B x) (B y)) : Nat) : Int)) (fr1 := ⟨[_,_,_,_,_, .int .i64 (((comL (B x) (B y)) : Nat) : Int), _,_,_,_,_,_,_,_,_,_,_,_,_,_,_,_,_,_,_,_,_,_,_,_], []⟩) rfl rfl rfl rfl ?_
  refine EndsOps.nil ?_
  refine Ends.seq ?_
  refine Ends.drawW (bef := [0, 0, 3, 0, 0, 24, 63, 127]) (by kernel_rfl) ?_
  refine D.op (v := .string x) (fr1 := ⟨[_,_,_,_,_,_,_,_,_,_, .string x, _,_,_,_,_,_,_,_,_,_,_,_,_,_,_,_,_,_,_], []⟩) rfl rfl rfl rfl rfl ?_
  refine D.op (v := .int .i64 (((comL (B x) (B y)) : Nat) : Int)) (fr1 := ⟨[_,_,_,_,_,_,_,_,_,_,_, .int .i64 (((comL (B x) (B y)) : Nat) : Int), _,_,_,_,_,_,_,_,_,_,_,_,_,_,_,_,_,_], []⟩) rfl rfl rfl rfl rfl ?_
  refine D.op (v := .string (sub x (((comL (B x) (B y)) : Nat) : Int).toNat (B x).length)) (fr1 := ⟨[_,_,_,_,_,_,_,_,_,_,_,_, .string (sub x (((comL (B x) (B y)) : Nat) : Int).toNat (B x).length), _,_,_,_,_,_,_,_,_,_,_,_,_,_,_,_,_], []⟩) rfl (p_subFrom rfl rfl rfl (by omega) (by omega)) rfl rfl rfl ?_
  refine D.op (v := .string y) (fr1 := ⟨[_,_,_,_,_,_,_,_,_,_,_,_,_, .string y, _,_,_,_,_,_,_,_,_,_,_,_,_,_,_,_], []⟩) rfl rfl rfl rfl rfl ?_
  refine D.op (v := .int .i64 (((comL (B x) (B y)) : Nat) : Int)) (fr1 := ⟨[_,_,_,_,_,_,_,_,_,_,_,_,_,_, .int .i64 (((comL (B x) (B y)) : Nat) : Int), _,_,_,_,_,_,_,_,_,_,_,_,_,_,_], []⟩) rfl rfl rfl rfl rfl ?_
  refine D.op (v := .string (sub y (((comL (B x) (B y)) : Nat) : Int).toNat (B y).length)) (fr1 := ⟨[_,_,_,_,_,_,_,_,_,_,_,_,_,_,_, .string (sub y (((comL (B x) (B y)) : Nat) : Int).toNat (B y).length), _,_,_,_,_,_,_,_,_,_,_,_,_,_], []⟩) rfl (p_subFrom rfl rfl rfl (by omega) (by omega)) rfl rfl rfl ?_
  have l1 : B (sub x (((comL (B x) (B y)) : Nat) : Int).toNat (B x).length) = (B x).drop (comL (B x) (B y)) := by rw [Int.toNat_natCast]; exact B_subFrom x _
  have l2 : B (sub y (((comL (B x) (B y)) : Nat) : Int).toNat (B y).length) = (B y).drop (comL (B x) (B y)) := by rw [Int.toNat_natCast]; exact B_subFrom y _
  have hk := lastL_le ((B x).drop (comL (B x) (B y))) ((B y).drop (comL (B x) (B y)))
  rw [List.length_drop, List.length_drop] at hk
  refine D.call (ar := [.string (sub x (((comL (B x) (B y)) : Nat) : Int).toNat (B x).length), .string (sub y (((comL (B x) (B y)) : Nat) : Int).toNat (B y).length)]) (X := .int .i64 (((lastL ((B x).drop (comL (B x) (B y))) ((B y).drop (comL (B x) (B y)))) : Nat) : Int)) (fr1 := ⟨[_,_,_,_,_,_,_,_,_,_,_,_,_,_,_,_, .int .i64 (((lastL ((B x).drop (comL (B x) (B y))) ((B y).drop (comL (B x) (B y)))) : Nat) : Int), _,_,_,_,_,_,_,_,_,_,_,_,_], []⟩) hO9 rfl rfl rfl rfl rfl ((c93 (sub x (((comL (B x) (B y)) : Nat) : Int).toNat (B x).length) (sub y (((comL (B x) (B y)) : Nat) : Int).toNat (B y).length) (by rw [l1, List.length_drop]; omega) (by rw [l2, List.length_drop]; omega) _).mono fun v _ _ h => h.trans (by rw [l1, l2])) rfl ?_
  intro s12 hO13 hS14
  have r15 := r11.own hS14
  refine D.op (v := .int .i64 (((lastL ((B x).drop (comL (B x) (B y))) ((B y).drop (comL (B x) (B y)))) : Nat) : Int)) (fr1 := ⟨[_,_,_,_,_,_, .int .i64 (((lastL ((B x).drop (comL (B x) (B y))) ((B y).drop (comL (B x) (B y)))) : Nat) : Int), _,_,_,_,_,_,_,_,_,_,_,_,_,_,_,_,_,_,_,_,_,_,_], []⟩) rfl rfl rfl rfl rfl ?_
  refine D.nil ?_
  refine Ends.seq ?_
  refine Ends.region ?_
  refine W.op (v := .int .i64 (((comL (B x) (B y)) : Nat) : Int)) (fr1 := ⟨[_,_,_,_,_,_,_,_,_,_,_,_,_,_,_,_,_, .int .i64 (((comL (B x) (B y)) : Nat) : Int), _,_,_,_,_,_,_,_,_,_,_,_], []⟩) rfl rfl rfl rfl ?_
  refine W.op (v := .string x) (fr1 := ⟨[_,_,_,_,_,_,_,_,_,_,_,_,_,_,_,_,_,_, .string x, _,_,_,_,_,_,_,_,_,_,_], []⟩) rfl rfl rfl rfl ?_
  refine W.op (v := .int .i64 (((B x).length : Nat) : Int)) (fr1 := ⟨[_,_,_,_,_,_,_,_,_,_,_,_,_,_,_,_,_,_,_, .int .i64 (((B x).length : Nat) : Int), _,_,_,_,_,_,_,_,_,_], []⟩) rfl rfl rfl rfl ?_
  refine W.op (v := .int .i64 (((lastL ((B x).drop (comL (B x) (B y))) ((B y).drop (comL (B x) (B y)))) : Nat) : Int)) (fr1 := ⟨[_,_,_,_,_,_,_,_,_,_,_,_,_,_,_,_,_,_,_,_, .int .i64 (((lastL ((B x).drop (comL (B x) (B y))) ((B y).drop (comL (B x) (B y)))) : Nat) : Int), _,_,_,_,_,_,_,_,_], []⟩) rfl rfl rfl rfl ?_
  obtain ⟨q16, hq17⟩ : ∃ z0 : Nat, (z0 : Int) = (((B x).length : Nat) : Int) - (((lastL ((B x).drop (comL (B x) (B y))) ((B y).drop (comL (B x) (B y)))) : Nat) : Int) := ⟨((B x).length - (lastL ((B x).drop (comL (B x) (B y))) ((B y).drop (comL (B x) (B y))))), by omega⟩
  refine W.op (v := .int .i64 ((q16 : Nat) : Int)) (fr1 := ⟨[_,_,_,_,_,_,_,_,_,_,_,_,_,_,_,_,_,_,_,_,_, .int .i64 ((q16 : Nat) : Int), _,_,_,_,_,_,_,_], []⟩) rfl (p_bin (subI (by omega) (by omega) (by omega))) rfl rfl ?_
  refine W.op (v := .string y) (fr1 := ⟨[_,_,_,_,_,_,_,_,_,_,_,_,_,_,_,_,_,_,_,_,_,_, .string y, _,_,_,_,_,_,_], []⟩) rfl rfl rfl rfl ?_
  refine W.op (v := .int .i64 (((comL (B x) (B y)) : Nat) : Int)) (fr1 := ⟨[_,_,_,_,_,_,_,_,_,_,_,_,_,_,_,_,_,_,_,_,_,_,_, .int .i64 (((comL (B x) (B y)) : Nat) : Int), _,_,_,_,_,_], []⟩) rfl rfl rfl rfl ?_
  refine W.op (v := .string y) (fr1 := ⟨[_,_,_,_,_,_,_,_,_,_,_,_,_,_,_,_,_,_,_,_,_,_,_,_, .string y, _,_,_,_,_], []⟩) rfl rfl rfl rfl ?_
  refine W.op (v := .int .i64 (((B y).length : Nat) : Int)) (fr1 := ⟨[_,_,_,_,_,_,_,_,_,_,_,_,_,_,_,_,_,_,_,_,_,_,_,_,_, .int .i64 (((B y).length : Nat) : Int), _,_,_,_], []⟩) rfl rfl rfl rfl ?_
  refine W.op (v := .int .i64 (((lastL ((B x).drop (comL (B x) (B y))) ((B y).drop (comL (B x) (B y)))) : Nat) : Int)) (fr1 := ⟨[_,_,_,_,_,_,_,_,_,_,_,_,_,_,_,_,_,_,_,_,_,_,_,_,_,_, .int .i64 (((lastL ((B x).drop (comL (B x) (B y))) ((B y).drop (comL (B x) (B y)))) : Nat) : Int), _,_,_], []⟩) rfl rfl rfl rfl ?_
  obtain ⟨q18, hq19⟩ : ∃ z0 : Nat, (z0 : Int) = (((B y).length : Nat) : Int) - (((lastL ((B x).drop (comL (B x) (B y))) ((B y).drop (comL (B x) (B y)))) : Nat) : Int) := ⟨((B y).length - (lastL ((B x).drop (comL (B x) (B y))) ((B y).drop (comL (B x) (B y))))), by omega⟩
  refine W.op (v := .int .i64 ((q18 : Nat) : Int)) (fr1 := ⟨[_,_,_,_,_,_,_,_,_,_,_,_,_,_,_,_,_,_,_,_,_,_,_,_,_,_,_, .int .i64 ((q18 : Nat) : Int), _,_], []⟩) rfl (p_bin (subI (by omega) (by omega) (by omega))) rfl rfl ?_
  refine W.op (v := .string (sub y (((comL (B x) (B y)) : Nat) : Int).toNat ((q18 : Nat) : Int).toNat)) (fr1 := ⟨[_,_,_,_,_,_,_,_,_,_,_,_,_,_,_,_,_,_,_,_,_,_,_,_,_,_,_,_, .string (sub y (((comL (B x) (B y)) : Nat) : Int).toNat ((q18 : Nat) : Int).toNat), _], []⟩) rfl (p_sub rfl rfl rfl rfl (by omega) (by omega) (by omega)) rfl rfl ?_
  refine W.op (v := .agg ⟨[.int .i64 (((comL (B x) (B y)) : Nat) : Int), .int .i64 ((q16 : Nat) : Int), .string (sub y (((comL (B x) (B y)) : Nat) : Int).toNat ((q18 : Nat) : Int).toNat)]⟩) (fr1 := ⟨[_,_,_,_,_,_,_,_,_,_,_,_,_,_,_,_,_,_,_,_,_,_,_,_,_,_,_,_,_, .agg ⟨[.int .i64 (((comL (B x) (B y)) : Nat) : Int), .int .i64 ((q16 : Nat) : Int), .string (sub y (((comL (B x) (B y)) : Nat) : Int).toNat ((q18 : Nat) : Int).toNat)]⟩], []⟩) rfl rfl rfl rfl ?_
  refine W.store2 (cs := [.int .i64 (((comL (B x) (B y)) : Nat) : Int), .int .i64 ((q16 : Nat) : Int), .string (sub y (((comL (B x) (B y)) : Nat) : Int).toNat ((q18 : Nat) : Int).toNat)]) (vs' := [.int .i64 (((comL (B x) (B y)) : Nat) : Int), .int .i64 ((q16 : Nat) : Int), .string (sub y (((comL (B x) (B y)) : Nat) : Int).toNat ((q18 : Nat) : Int).toNat)]) (fr1 := ⟨[_,_,_,_,_,_,_,_,_,_,_,_,_,_,_,_,_,_,_,_,_,_,_,_,_,_,_,_,_,_], []⟩) hO13 r15 hB7 rfl rfl rfl rfl (by kernel_rfl) (by simp) (by simp [END, oneCell]) rfl rfl ?_
  intro s20 hO21 hn22 hu23 r24 hX25
  refine EndsOps.nil ?_
  refine Ends.ret ?_
  exact ⟨rfl, rfl, hO21, N1, _, _, _, _, rfl, r24, rfl, (by have e1 : q16 = (B x).length - lastL ((B x).drop (comL (B x) (B y))) ((B y).drop (comL (B x) (B y))) := (by omega); have e2 : q18 = (B y).length - lastL ((B x).drop (comL (B x) (B y))) ((B y).drop (comL (B x) (B y))) := (by omega); subst e1; subst e2; rfl)⟩

theorem c77 (f g : Fl) (s : St) : EndsPure R1.T 77 [.agg ⟨[.string f.nm, .string f.tx]⟩, .agg ⟨[.string g.nm, .string g.tx]⟩] s (fun v _ _ => v = .bool (decide (B f.nm = B g.nm))) := by
  refine EndsPure.of (rs := [4]) (fr0 := ⟨[.agg ⟨[.string f.nm, .string f.tx]⟩, .agg ⟨[.string g.nm, .string g.tx]⟩, undef, undef, undef, undef, undef, undef, undef, undef], []⟩) (by kernel_rfl : R1.T.fn 77 = some ⟨10, (Try.f77.body).getD .skip, [.tmp 4]⟩) rfl ?_
  have hO0 := Own.refl s
  simp only [Try.f77, Option.getD]
  refine Ends.seq ?_
  refine Ends.region ?_
  obtain ⟨N1, hN2⟩ : ∃ N, N = s.next := ⟨_, rfl⟩
  refine W.new (N := N1) (vs := [.string f.nm, .string f.tx]) (fr1 := ⟨[_,_, .pointer (some ⟨N1, 0, none⟩), _,_,_,_,_,_,_], []⟩) hO0 hN2 rfl (p_box rfl) rfl rfl ?_
  intro s3 hO4 hS5 r6 hB7
  obtain ⟨N8, hN9⟩ : ∃ N, N = s3.next := ⟨_, rfl⟩
  have lt_N1_N8 : N1 < N8 := hN9 ▸ r6.lt
  refine W.new (N := N8) (vs := [.string g.nm, .string g.tx]) (fr1 := ⟨[_,_,_, .pointer (some ⟨N8, 0, none⟩), _,_,_,_,_,_], []⟩) hO4 hN9 rfl (p_box rfl) rfl rfl ?_
  intro s10 hO11 hS12 r13 hB14
  have r15 := r6.own hS12
  refine W.op (v := .bool false) (fr1 := ⟨[_,_,_,_, .bool false, _,_,_,_,_], []⟩) rfl rfl rfl rfl ?_
  refine EndsOps.nil ?_
  refine Ends.seq ?_
  refine Ends.region ?_
  refine W.op (v := .pointer (some ⟨N1, 0, none⟩)) (fr1 := ⟨[_,_,_,_,_, .pointer (some ⟨N1, 0, none⟩), _,_,_,_], []⟩) rfl rfl rfl rfl ?_
  refine W.op (v := .string f.nm) (fr1 := ⟨[_,_,_,_,_,_, .string f.nm, _,_,_], []⟩) rfl (p_load1 r15 rfl rfl rfl rfl) rfl rfl ?_
  refine W.op (v := .pointer (some ⟨N8, 0, none⟩)) (fr1 := ⟨[_,_,_,_,_,_,_, .pointer (some ⟨N8, 0, none⟩), _,_], []⟩) rfl rfl rfl rfl ?_
  refine W.op (v := .string g.nm) (fr1 := ⟨[_,_,_,_,_,_,_,_, .string g.nm, _], []⟩) rfl (p_load1 r13 rfl rfl rfl rfl) rfl rfl ?_
  by_cases h16 : B f.nm = B g.nm
  · skip
    refine W.op (v := .bool true) (fr1 := ⟨[_,_,_,_,_,_,_,_,_, .bool true], []⟩) rfl (p_bin (seqT h16)) rfl rfl ?_
    refine W.op (v := .bool true) (fr1 := ⟨[_,_,_,_, .bool true, _,_,_,_,_], []⟩) rfl rfl rfl rfl ?_
    refine EndsOps.nil ?_
    refine Ends.ret ?_
    exact ⟨rfl, rfl, hO11, by
      show Value.bool true = .bool (decide (B f.nm = B g.nm))
      simp only [decide_true, decide_false, *]⟩
  · skip
    refine W.op (v := .bool false) (fr1 := ⟨[_,_,_,_,_,_,_,_,_, .bool false], []⟩) rfl (p_bin (seqF h16)) rfl rfl ?_
    refine W.op (v := .bool false) (fr1 := ⟨[_,_,_,_, .bool false, _,_,_,_,_], []⟩) rfl rfl rfl rfl ?_
    refine EndsOps.nil ?_
    refine Ends.ret ?_
    exact ⟨rfl, rfl, hO11, by
      show Value.bool false = .bool (decide (B f.nm = B g.nm))
      simp only [decide_true, decide_false, *]⟩

theorem c78 (aa : Option Addr) (a : List Fl) (ca Na oa : Nat) (va : List Value) (ya za : Nat) (ab : Option Addr) (b : List Fl) (cb Nb ob : Nat) (vb : List Value) (yb zb : Nat) (s : St) (Ha : Sl Fl.cells 2 s.t s.next aa a Na oa va ya za) (Hb : Sl Fl.cells 2 s.t s.next ab b Nb ob vb yb zb)  : EndsPure R1.T 78 [.slice aa a.length ca, .slice ab b.length cb, .func (.func 77) ⟨[]⟩ ⟨[]⟩] s (fun v _ _ => v = .bool (decide (Named a b))) := by
  refine EndsPure.of (rs := [6]) (fr0 := ⟨[.slice aa a.length ca, .slice ab b.length cb, .func (.func 77) ⟨[]⟩ ⟨[]⟩, undef, undef, undef, undef, undef, undef, undef, undef, undef, undef, undef, undef, undef, undef, undef, undef, undef, undef, undef, undef, undef, undef, undef, undef, undef, undef, undef, undef, undef], []⟩) (by kernel_rfl : R1.T.fn 78 = some ⟨32, (Try.f78.body).getD .skip, [.tmp 6]⟩) rfl ?_
  have hO0 := Own.refl s
  have Ma := Ha.small
  have Mb := Hb.small
  simp only [Try.f78, Option.getD]
  refine Ends.seq ?_
  refine Ends.region ?_
  refine W.op (v := .bool false) (fr1 := ⟨[_,_,_,_,_,_, .bool false, _,_,_,_,_,_,_,_,_,_,_,_,_,_,_,_,_,_,_,_,_,_,_,_,_], []⟩) rfl rfl rfl rfl ?_
  refine EndsOps.nil ?_
  refine Ends.seq ?_
  refine Ends.seq ?_
  refine Ends.region ?_
  refine W.op (v := .slice aa a.length ca) (fr1 := ⟨[_,_,_,_,_,_,_,_,_,_, .slice aa a.length ca, _,_,_,_,_,_,_,_,_,_,_,_,_,_,_,_,_,_,_,_,_], []⟩) rfl rfl rfl rfl ?_
  refine W.op (v := .int .i64 ((a.length : Nat) : Int)) (fr1 := ⟨[_,_,_,_,_,_,_,_,_,_,_, .int .i64 ((a.length : Nat) : Int), _,_,_,_,_,_,_,_,_,_,_,_,_,_,_,_,_,_,_,_], []⟩) rfl rfl rfl rfl ?_
  refine W.op (v := .slice ab b.length cb) (fr1 := ⟨[_,_,_,_,_,_,_,_,_,_,_,_, .slice ab b.length cb, _,_,_,_,_,_,_,_,_,_,_,_,_,_,_,_,_,_,_], []⟩) rfl rfl rfl rfl ?_
  refine W.op (v := .int .i64 ((b.length : Nat) : Int)) (fr1 := ⟨[_,_,_,_,_,_,_,_,_,_,_,_,_, .int .i64 ((b.length : Nat) : Int), _,_,_,_,_,_,_,_,_,_,_,_,_,_,_,_,_,_], []⟩) rfl rfl rfl rfl ?_
  by_cases h1 : ((a.length : Nat) : Int) = ((b.length : Nat) : Int)
  · skip
    refine W.op (v := .bool false) (fr1 := ⟨[_,_,_,_,_,_,_,_,_,_,_,_,_,_, .bool false, _,_,_,_,_,_,_,_,_,_,_,_,_,_,_,_,_], []⟩) rfl (p_bin (neF h1)) rfl rfl ?_
    refine EndsOps.nil ?_
    refine Ends.condF rfl ?_
    refine Ends.skip ?_
    refine Ends.seq ?_
    refine Ends.seq ?_
    refine Ends.region ?_
    refine W.op (v := .slice aa a.length ca) (fr1 := ⟨[_,_,_,_,_,_,_,_,_,_,_,_,_,_,_, .slice aa a.length ca, _,_,_,_,_,_,_,_,_,_,_,_,_,_,_,_], []⟩) rfl rfl rfl rfl ?_
    refine W.op (v := .int .i64 ((a.length : Nat) : Int)) (fr1 := ⟨[_,_,_,_,_,_,_,_,_,_,_,_,_,_,_,_, .int .i64 ((a.length : Nat) : Int), _,_,_,_,_,_,_,_,_,_,_,_,_,_,_], []⟩) rfl rfl rfl rfl ?_
    refine W.op (v := .int .i64 0) (fr1 := ⟨[_,_,_,_,_,_,_,_,_,_,_,_,_,_,_,_,_, .int .i64 0, _,_,_,_,_,_,_,_,_,_,_,_,_,_], []⟩) rfl rfl rfl rfl ?_
    refine EndsOps.nil ?_
    refine W.block ?_
    refine Ends.loopInv (fun d fr s1 => ∃ (i : Nat) (j6 j7 j8 j9 j18 j19 j20 j21 j22 j23 j24 j25 j26 j27 j28 j29 j30 j31 : Value), fr = ⟨[.slice aa a.length ca, .slice ab b.length cb, .func (.func 77) ⟨[]⟩ ⟨[]⟩, undef, undef, undef, j6, j7, j8, j9, .slice aa a.length ca, .int .i64 ((a.length : Nat) : Int), .slice ab b.length cb, .int .i64 ((b.length : Nat) : Int), .bool false, .slice aa a.length ca, .int .i64 ((a.length : Nat) : Int), .int .i64 ((i : Nat) : Int), j18, j19, j20, j21, j22, j23, j24, j25, j26, j27, j28, j29, j30, j31], []⟩ ∧ Own s s1 ∧ d = a.length - i ∧ (i ≤ a.length) ∧ (∀ (k : Nat), k < i → ∀ (f g : Fl), a[k]? = some f → b[k]? = some g → B f.nm = B g.nm)) ?_ _ _ _ ⟨0, _, _, _, _, _, _, _, _, _, _, _, _, _, _, _, _, _, _, rfl, hO0, rfl, Nat.zero_le _, fun k hk => absurd hk (Nat.not_lt_zero k)⟩
    rintro d _ s2 ⟨i, j6, j7, j8, j9, j18, j19, j20, j21, j22, j23, j24, j25, j26, j27, j28, j29, j30, j31, rfl, hO3, hd4, hi, hok⟩
    refine Ends.seq ?_
    refine Ends.region ?_
    by_cases h5 : ((i : Nat) : Int) < ((a.length : Nat) : Int)
    · skip
      refine W.op (v := .bool true) (fr1 := ⟨[_,_,_,_,_,_,_,_,_,_,_,_,_,_,_,_,_,_, .bool true, _,_,_,_,_,_,_,_,_,_,_,_,_], []⟩) rfl (p_bin (ltT h5)) rfl rfl ?_
      refine EndsOps.nil ?_
      refine Ends.seq ?_
      refine Ends.condT rfl ?_
      refine Ends.skip ?_
      refine Ends.seq ?_
      refine W.block ?_
      refine Ends.seq ?_
      refine Ends.region ?_
      refine W.op (v := .int .i64 ((i : Nat) : Int)) (fr1 := ⟨[_,_,_,_,_,_,_,_,_,_,_,_,_,_,_,_,_,_,_, .int .i64 ((i : Nat) : Int), _,_,_,_,_,_,_,_,_,_,_,_], []⟩) rfl rfl rfl rfl ?_
      obtain ⟨e6, he7⟩ := ex_at (l := a) (i := i) (by omega)
      refine W.op (v := .pointer (some ⟨Na, oa + i * 2, none⟩)) (fr1 := ⟨[_,_,_,_,_,_,_,_,_,_,_,_,_,_,_,_,_,_,_,_, .pointer (some ⟨Na, oa + i * 2, none⟩), _,_,_,_,_,_,_,_,_,_,_], []⟩) rfl (p_ix (Sl.ix Ha rfl rfl he7 _)) rfl rfl ?_
      refine W.op (v := .agg ⟨[.string e6.nm, .string e6.tx]⟩) (fr1 := ⟨[_,_,_,_,_,_,_,_,_,_,_,_,_,_,_,_,_,_,_,_,_, .agg ⟨[.string e6.nm, .string e6.tx]⟩, _,_,_,_,_,_,_,_,_,_], []⟩) rfl (p_loadA (Sl.row' (Ha.own hO3) he7) rfl rfl rfl rfl ((Ha.own hO3).get _ _ he7)) rfl rfl ?_
      obtain ⟨N8, hN9⟩ : ∃ N, N = s2.next := ⟨_, rfl⟩
      refine W.new (N := N8) (vs := [.string ByteArray.empty, .string ByteArray.empty]) (fr1 := ⟨[_,_,_,_,_,_,_,_, .pointer (some ⟨N8, 0, none⟩), _,_,_,_,_,_,_,_,_,_,_,_,_,_,_,_,_,_,_,_,_,_,_], []⟩) hO3 hN9 rfl (p_alloc zero68 rfl) rfl rfl ?_
      intro s10 hO11 hS12 r13 hB14
      refine W.op (v := .int .i64 ((i : Nat) : Int)) (fr1 := ⟨[_,_,_,_,_,_,_, .int .i64 ((i : Nat) : Int), _,_,_,_,_,_,_,_,_,_,_,_,_,_,_,_,_,_,_,_,_,_,_,_], []⟩) rfl rfl rfl rfl ?_
      refine W.store2 (cs := [.string e6.nm, .string e6.tx]) (vs' := [.string e6.nm, .string e6.tx]) (fr1 := ⟨[_,_,_,_,_,_,_,_,_,_,_,_,_,_,_,_,_,_,_,_,_,_,_,_,_,_,_,_,_,_,_,_], []⟩) hO11 r13 hB14 rfl rfl rfl rfl (by kernel_rfl) (by simp) (by simp [END, oneCell]) rfl rfl ?_
      intro s15 hO16 hn17 hu18 r19 hX20
      refine EndsOps.nil ?_
      refine Ends.seq ?_
      refine Ends.region ?_
      refine W.op (v := .slice ab b.length cb) (fr1 := ⟨[_,_,_,_,_,_,_,_,_,_,_,_,_,_,_,_,_,_,_,_,_,_, .slice ab b.length cb, _,_,_,_,_,_,_,_,_], []⟩) rfl rfl rfl rfl ?_
      refine W.op (v := .int .i64 ((i : Nat) : Int)) (fr1 := ⟨[_,_,_,_,_,_,_,_,_,_,_,_,_,_,_,_,_,_,_,_,_,_,_, .int .i64 ((i : Nat) : Int), _,_,_,_,_,_,_,_], []⟩) rfl rfl rfl rfl ?_
      obtain ⟨e21, he22⟩ := ex_at (l := b) (i := i) (by omega)
      refine W.op (v := .pointer (some ⟨Nb, ob + i * 2, none⟩)) (fr1 := ⟨[_,_,_,_,_,_,_,_,_,_,_,_,_,_,_,_,_,_,_,_,_,_,_,_, .pointer (some ⟨Nb, ob + i * 2, none⟩), _,_,_,_,_,_,_], []⟩) rfl (p_ix (Sl.ix Hb rfl rfl he22 _)) rfl rfl ?_
      refine W.op (v := .agg ⟨[.string e21.nm, .string e21.tx]⟩) (fr1 := ⟨[_,_,_,_,_,_,_,_,_,_,_,_,_,_,_,_,_,_,_,_,_,_,_,_,_, .agg ⟨[.string e21.nm, .string e21.tx]⟩, _,_,_,_,_,_], []⟩) rfl (p_loadA (Sl.row' (Hb.own hO16) he22) rfl rfl rfl rfl ((Hb.own hO16).get _ _ he22)) rfl rfl ?_
      obtain ⟨N23, hN24⟩ : ∃ N, N = s15.next := ⟨_, rfl⟩
      have lt_N8_N23 : N8 < N23 := hN24 ▸ r19.lt
      refine W.new (N := N23) (vs := [.string ByteArray.empty, .string ByteArray.empty]) (fr1 := ⟨[_,_,_,_,_,_,_,_,_, .pointer (some ⟨N23, 0, none⟩), _,_,_,_,_,_,_,_,_,_,_,_,_,_,_,_,_,_,_,_,_,_], []⟩) hO16 hN24 rfl (p_alloc zero68 rfl) rfl rfl ?_
      intro s25 hO26 hS27 r28 hB29
      have r30 := r19.own hS27
      refine W.store2 (cs := [.string e21.nm, .string e21.tx]) (vs' := [.string e21.nm, .string e21.tx]) (fr1 := ⟨[_,_,_,_,_,_,_,_,_,_,_,_,_,_,_,_,_,_,_,_,_,_,_,_,_,_,_,_,_,_,_,_], []⟩) hO26 r28 hB29 rfl rfl rfl rfl (by kernel_rfl) (by simp) (by simp [END, oneCell]) rfl rfl ?_
      intro s31 hO32 hn33 hu34 r35 hX36
      have r37 := r30.upd hn33 hu34 (Nat.ne_of_lt lt_N8_N23)
      refine EndsOps.nil ?_
      refine Ends.seq ?_
      refine Ends.region ?_
      refine W.op (v := .func (.func 77) ⟨[]⟩ ⟨[]⟩) (fr1 := ⟨[_,_,_,_,_,_,_,_,_,_,_,_,_,_,_,_,_,_,_,_,_,_,_,_,_,_, .func (.func 77) ⟨[]⟩ ⟨[]⟩, _,_,_,_,_], []⟩) rfl rfl rfl rfl ?_
      refine W.op (v := .agg ⟨[.string e6.nm, .string e6.tx]⟩) (fr1 := ⟨[_,_,_,_,_,_,_,_,_,_,_,_,_,_,_,_,_,_,_,_,_,_,_,_,_,_,_, .agg ⟨[.string e6.nm, .string e6.tx]⟩, _,_,_,_], []⟩) rfl (p_loadA r37 rfl rfl rfl rfl rfl) rfl rfl ?_
      refine W.op (v := .agg ⟨[.string e21.nm, .string e21.tx]⟩) (fr1 := ⟨[_,_,_,_,_,_,_,_,_,_,_,_,_,_,_,_,_,_,_,_,_,_,_,_,_,_,_,_, .agg ⟨[.string e21.nm, .string e21.tx]⟩, _,_,_], []⟩) rfl (p_loadA r35 rfl rfl rfl rfl rfl) rfl rfl ?_
      by_cases h38 : B e6.nm = B e21.nm
      · skip
        refine W.call (ar := [.agg ⟨[.string e6.nm, .string e6.tx]⟩, .agg ⟨[.string e21.nm, .string e21.tx]⟩]) (X := .bool true) (fr1 := ⟨[_,_,_,_,_,_,_,_,_,_,_,_,_,_,_,_,_,_,_,_,_,_,_,_,_,_,_,_,_, .bool true, _,_], []⟩) hO32 rfl rfl rfl rfl ((c77 e6 e21 _).mono fun v _ _ h => h.trans (congrArg Value.bool (decide_eq_true h38))) rfl ?_
        intro s39 hO40 hS41
        have r42 := r37.own hS41
        have r43 := r35.own hS41
        refine W.op (v := .bool false) (fr1 := ⟨[_,_,_,_,_,_,_,_,_,_,_,_,_,_,_,_,_,_,_,_,_,_,_,_,_,_,_,_,_,_, .bool false, _], []⟩) rfl rfl rfl rfl ?_
        refine EndsOps.nil ?_
        refine Ends.condF rfl ?_
        refine Ends.skip ?_
        refine Ends.region ?_
        refine W.op (v := .int .i64 ((i + 1 : Nat) : Int)) (fr1 := ⟨[_,_,_,_,_,_,_,_,_,_,_,_,_,_,_,_,_,_,_,_,_,_,_,_,_,_,_,_,_,_,_, .int .i64 ((i + 1 : Nat) : Int)], []⟩) rfl (p_bin (addI (by omega) (by omega) (by omega))) rfl rfl ?_
        refine W.op (v := .int .i64 ((i + 1 : Nat) : Int)) (fr1 := ⟨[_,_,_,_,_,_,_,_,_,_,_,_,_,_,_,_,_, .int .i64 ((i + 1 : Nat) : Int), _,_,_,_,_,_,_,_,_,_,_,_,_,_], []⟩) rfl rfl rfl rfl ?_
        refine EndsOps.nil ?_
        exact ⟨_, (by omega), i + 1, _, _, _, _, _, _, _, _, _, _, _, _, _, _, _, _, _, _, rfl, hO40, rfl, by omega, (fun k hk f g hf hg => by by_cases hki : k = i; (subst hki; rw [he7] at hf; rw [he22] at hg; cases hf; cases hg; exact h38); exact hok k (by omega) f g hf hg)⟩
      · skip
        refine W.call (ar := [.agg ⟨[.string e6.nm, .string e6.tx]⟩, .agg ⟨[.string e21.nm, .string e21.tx]⟩]) (X := .bool false) (fr1 := ⟨[_,_,_,_,_,_,_,_,_,_,_,_,_,_,_,_,_,_,_,_,_,_,_,_,_,_,_,_,_, .bool false, _,_], []⟩) hO32 rfl rfl rfl rfl ((c77 e6 e21 _).mono fun v _ _ h => h.trans (congrArg Value.bool (decide_eq_false h38))) rfl ?_
        intro s44 hO45 hS46
        have r47 := r37.own hS46
        have r48 := r35.own hS46
        refine W.op (v := .bool true) (fr1 := ⟨[_,_,_,_,_,_,_,_,_,_,_,_,_,_,_,_,_,_,_,_,_,_,_,_,_,_,_,_,_,_, .bool true, _], []⟩) rfl rfl rfl rfl ?_
        refine EndsOps.nil ?_
        refine Ends.condT rfl ?_
        refine Ends.seq ?_
        refine Ends.region ?_
        refine W.op (v := .bool false) (fr1 := ⟨[_,_,_,_,_,_, .bool false, _,_,_,_,_,_,_,_,_,_,_,_,_,_,_,_,_,_,_,_,_,_,_,_,_], []⟩) rfl rfl rfl rfl ?_
        refine EndsOps.nil ?_
        refine Ends.ret ?_
        exact ⟨rfl, rfl, hO45, by
          show Value.bool false = .bool (decide (Named a b))
          exact congrArg Value.bool (decide_eq_false fun hh => h38 (hh.2 i _ _ he7 he22)).symm⟩
    · skip
      refine W.op (v := .bool false) (fr1 := ⟨[_,_,_,_,_,_,_,_,_,_,_,_,_,_,_,_,_,_, .bool false, _,_,_,_,_,_,_,_,_,_,_,_,_], []⟩) rfl (p_bin (ltF h5)) rfl rfl ?_
      refine EndsOps.nil ?_
      refine Ends.seq ?_
      refine Ends.condF rfl ?_
      refine Ends.exit ?_
      refine W.outT rfl ?_
      refine Ends.seq ?_
      refine Ends.region ?_
      refine W.op (v := .bool true) (fr1 := ⟨[_,_,_,_,_,_, .bool true, _,_,_,_,_,_,_,_,_,_,_,_,_,_,_,_,_,_,_,_,_,_,_,_,_], []⟩) rfl rfl rfl rfl ?_
      refine EndsOps.nil ?_
      refine Ends.ret ?_
      exact ⟨rfl, rfl, hO3, by
        show Value.bool true = .bool (decide (Named a b))
        exact congrArg Value.bool (decide_eq_true ⟨by omega, fun k f g hf hg => hok k (by have := (List.getElem?_eq_some_iff.1 hf).1; omega) f g hf hg⟩).symm⟩
  · skip
    refine W.op (v := .bool true) (fr1 := ⟨[_,_,_,_,_,_,_,_,_,_,_,_,_,_, .bool true, _,_,_,_,_,_,_,_,_,_,_,_,_,_,_,_,_], []⟩) rfl (p_bin (neT h1)) rfl rfl ?_
    refine EndsOps.nil ?_
    refine Ends.condT rfl ?_
    refine Ends.seq ?_
    refine Ends.region ?_
    refine W.op (v := .bool false) (fr1 := ⟨[_,_,_,_,_,_, .bool false, _,_,_,_,_,_,_,_,_,_,_,_,_,_,_,_,_,_,_,_,_,_,_,_,_], []⟩) rfl rfl rfl rfl ?_
    refine EndsOps.nil ?_
    refine Ends.ret ?_
    exact ⟨rfl, rfl, hO0, by
      show Value.bool false = .bool (decide (Named a b))
      exact congrArg Value.bool (decide_eq_false fun hh => h1 (by rw [hh.1])).symm⟩
end Go.Ev.R1
