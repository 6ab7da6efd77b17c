/-
  EV: contracts of the first seat's functions.
-/
import Derived.Test.YtelpkdjibjddlaaEvKpA1
set_option linter.unusedSimpArgs false
set_option linter.unusedVariables false
namespace Go.Ev.R1
open Go Go.Ev Go.Proofs
set_option maxRecDepth 10000

abbrev xy : ByteArray := ⟨#[120, 121]⟩
abbrev e0 : Ed := ⟨1, 2, xy⟩
theorem right0 : Right [e0] 3 := ⟨by decide, fun k hk e he => by
  have : k = 0 := by simp at hk; omega
  subst this
  simp at he; subst he
  exact ⟨⟨by decide, by decide, by decide⟩, fun a h => by omega⟩⟩
theorem errneqT {z : Int} (h : z = 0) : binop R1.T .neq 26 true (errV z) .nilIface = some (.bool false) := by subst h; rfl
theorem errneqF {z : Int} {c : Bool} (h : ¬ z = 0) : binop R1.T .neq 26 c (errV z) .nilIface = some (.bool true) := by unfold errV; rw [if_neg h]; rfl
theorem goA : goS [e0] 3 2 = (3, 0) := by decide +kernel
theorem goB : goS [e0] 3 1 = (0, 5) := by decide +kernel
theorem zero4 : R1.T.zero 4 = some (.bool false) := by kernel_rfl

theorem c68F (al : Option Addr) (l : List Ed) (cl Nl ol : Nat) (vl : List Value) (yl zl : Nat) (n : Int) (hR : ¬ Right l n) (L N1 N2 z1 z2 : Nat) (s : St) (Hl : Sl Ed.cells 3 s.t s.next al l Nl ol vl yl zl) (hr1 : Row s.t s.next N1 [.slice al l.length cl] 22 z1) (hr2 : Row s.t s.next N2 [.int .i64 n] 3 z2)  : EndsPure R1.T 68 [.func (.yield L) #[] #[], .pointer (some ⟨N1, 0, none⟩), .pointer (some ⟨N2, 0, none⟩)] s (fun _ _ _ => True) := by
  refine EndsPure.of (rs := []) (fr0 := ⟨[.func (.yield L) #[] #[], .pointer (some ⟨N1, 0, none⟩), .pointer (some ⟨N2, 0, none⟩), undef, undef, undef, undef, undef, undef, undef, undef, undef, undef, undef, undef, undef, undef, undef, undef, undef, undef, undef, undef, undef, undef, undef, undef, undef, undef, undef, undef, undef, undef, undef, undef, undef], []⟩) (by kernel_rfl : R1.T.fn 68 = some ⟨36, (Try.f68.body).getD .skip, []⟩) rfl ?_
  have hO0 := Own.refl s
  have Ml := Hl.small
  simp only [Try.f68, Option.getD]
  refine Ends.seq ?_
  refine Ends.seq ?_
  refine Ends.region ?_
  refine W.op (v := .slice al l.length cl) (fr1 := ⟨[_, _, _, _, _, _, _, .slice al l.length cl, _, _, _, _, _, _, _, _, _, _, _, _, _, _, _, _, _, _, _, _, _, _, _, _, _, _, _, _], []⟩) rfl (p_load1 hr1 rfl rfl rfl rfl) rfl rfl ?_
  refine W.op (v := .int .i64 n) (fr1 := ⟨[_, _, _, _, _, _, _, _, .int .i64 n, _, _, _, _, _, _, _, _, _, _, _, _, _, _, _, _, _, _, _, _, _, _, _, _, _, _, _], []⟩) rfl (p_load1 hr2 rfl rfl rfl rfl) rfl rfl ?_
  refine W.call (ar := [.slice al l.length cl, .int .i64 n]) (X := .bool false) (fr1 := ⟨[_, _, _, _, _, _, _, _, _, .bool false, _, _, _, _, _, _, _, _, _, _, _, _, _, _, _, _, _, _, _, _, _, _, _, _, _, _], []⟩) hO0 rfl rfl rfl rfl ((c35 _ _ _ _ _ _ _ _ n _ (Hl.own hO0)).mono fun v _ _ h => h.trans (congrArg Value.bool (decide_eq_false hR))) rfl ?_
  intro s1 hO2 hS3
  have r4 := hr1.own hS3
  have r5 := hr2.own hS3
  refine W.op (v := .bool true) (fr1 := ⟨[_, _, _, _, _, _, _, _, _, _, .bool true, _, _, _, _, _, _, _, _, _, _, _, _, _, _, _, _, _, _, _, _, _, _, _, _, _], []⟩) rfl rfl rfl rfl ?_
  refine EndsOps.nil ?_
  refine Ends.condT rfl ?_
  refine Ends.ret ?_
  exact ⟨rfl, rfl, hO2, trivial⟩

theorem c26 (al : Option Addr) (l : List Ed) (cl Nl ol : Nat) (vl : List Value) (yl zl : Nat) (n : Int) (s : St) : EndsPure R1.T 26 [.slice al l.length cl, .int .i64 n] s (fun v t m => ∃ Na Nb, v = .func (.func 68) ⟨[]⟩ ⟨[.pointer (some ⟨Na, 0, none⟩), .pointer (some ⟨Nb, 0, none⟩)]⟩ ∧ Row t m Na [.slice al l.length cl] 22 0 ∧ Row t m Nb [.int .i64 n] 3 0 ∧ s.next ≤ Na ∧ s.next ≤ Nb) := by
  refine EndsPure.of (rs := [4]) (fr0 := ⟨[.slice al l.length cl, .int .i64 n, undef, undef, undef, undef], []⟩) (by kernel_rfl : R1.T.fn 26 = some ⟨6, (Try.f26.body).getD .skip, [.tmp 4]⟩) rfl ?_
  have hO0 := Own.refl s
  simp only [Try.f26, Option.getD]
  refine Ends.seq ?_
  refine Ends.region ?_
  obtain ⟨N1, hN2⟩ : ∃ N, N = s.next := ⟨_, rfl⟩
  refine W.new (N := N1) (vs := [.slice al l.length cl]) (fr1 := ⟨[_, _, .pointer (some ⟨N1, 0, none⟩), _, _, _], []⟩) hO0 hN2 rfl (p_box rfl) rfl rfl ?_
  intro s3 hO4 hS5 r6 hB7
  obtain ⟨N8, hN9⟩ : ∃ N, N = s3.next := ⟨_, rfl⟩
  refine W.new (N := N8) (vs := [.int .i64 n]) (fr1 := ⟨[_, _, _, .pointer (some ⟨N8, 0, none⟩), _, _], []⟩) hO4 hN9 rfl (p_box rfl) rfl rfl ?_
  intro s10 hO11 hS12 r13 hB14
  have r15 := r6.own hS12
  refine W.op (v := .nilFunc) (fr1 := ⟨[_, _, _, _, .nilFunc, _], []⟩) rfl rfl rfl rfl ?_
  refine EndsOps.nil ?_
  refine Ends.seq ?_
  refine Ends.region ?_
  refine W.op (v := .func (.func 68) ⟨[]⟩ ⟨[.pointer (some ⟨N1, 0, none⟩), .pointer (some ⟨N8, 0, none⟩)]⟩) (fr1 := ⟨[_, _, _, _, _, .func (.func 68) ⟨[]⟩ ⟨[.pointer (some ⟨N1, 0, none⟩), .pointer (some ⟨N8, 0, none⟩)]⟩], []⟩) rfl rfl rfl rfl ?_
  refine W.op (v := .func (.func 68) ⟨[]⟩ ⟨[.pointer (some ⟨N1, 0, none⟩), .pointer (some ⟨N8, 0, none⟩)]⟩) (fr1 := ⟨[_, _, _, _, .func (.func 68) ⟨[]⟩ ⟨[.pointer (some ⟨N1, 0, none⟩), .pointer (some ⟨N8, 0, none⟩)]⟩, _], []⟩) rfl rfl rfl rfl ?_
  refine EndsOps.nil ?_
  refine Ends.ret ?_
  exact ⟨rfl, rfl, hO11, ⟨_, _, rfl, r15, r13, hB7, hB14⟩⟩

theorem c15 (s : St) : EndsPure R1.T 15 [] s (fun v _ _ => v = .bool true) := by
  refine EndsPure.of (rs := [0]) (fr0 := ⟨[undef, undef, undef, undef, undef, undef, undef, undef, undef, undef, undef, undef, undef, undef, undef, undef, undef, undef, undef, undef, undef, undef, undef, undef, undef, undef, undef, undef], []⟩) (by kernel_rfl : R1.T.fn 15 = some ⟨28, (Try.f15.body).getD .skip, [.tmp 0]⟩) rfl ?_
  have hO0 := Own.refl s
  simp only [Try.f15, Option.getD]
  refine Ends.seq ?_
  refine Ends.region ?_
  refine W.op (v := .bool false) (fr1 := ⟨[.bool false, _, _, _, _, _, _, _, _, _, _, _, _, _, _, _, _, _, _, _, _, _, _, _, _, _, _, _], []⟩) rfl rfl rfl rfl ?_
  refine EndsOps.nil ?_
  refine Ends.seq ?_
  refine Ends.region ?_
  refine W.op (v := .agg ⟨[.int .i64 1, .int .i64 2, .string xy]⟩) (fr1 := ⟨[_, _, _, _, _, _, .agg ⟨[.int .i64 1, .int .i64 2, .string xy]⟩, _, _, _, _, _, _, _, _, _, _, _, _, _, _, _, _, _, _, _, _, _], []⟩) rfl rfl rfl rfl ?_
  obtain ⟨N1, hN2⟩ : ∃ N, N = s.next := ⟨_, rfl⟩
  refine W.newS (N := N1) (vs := [.int .i64 1, .int .i64 2, .string xy]) (fr1 := ⟨[_, _, _, _, _, _, _, .slice (some ⟨N1, 0, none⟩) 1 1, _, _, _, _, _, _, _, _, _, _, _, _, _, _, _, _, _, _, _, _], []⟩) hO0 hN2 rfl (p_bs rfl rfl zero97 rfl (by decide) rfl rfl) rfl rfl ?_
  intro s3 hO4 hS5 r6 hB7
  have H8 : Sl Ed.cells 3 s3.t s3.next (some ⟨N1, 0, none⟩) [e0] N1 0 _ _ _ := Sl.single r6 (by decide)
  refine W.op (v := .slice (some ⟨N1, 0, none⟩) 1 1) (fr1 := ⟨[_, .slice (some ⟨N1, 0, none⟩) 1 1, _, _, _, _, _, _, _, _, _, _, _, _, _, _, _, _, _, _, _, _, _, _, _, _, _, _], []⟩) rfl rfl rfl rfl ?_
  refine EndsOps.nil ?_
  refine Ends.seq ?_
  refine Ends.region ?_
  refine W.op (v := .slice (some ⟨N1, 0, none⟩) 1 1) (fr1 := ⟨[_, _, _, _, _, _, _, _, _, .slice (some ⟨N1, 0, none⟩) 1 1, _, _, _, _, _, _, _, _, _, _, _, _, _, _, _, _, _, _], []⟩) rfl rfl rfl rfl ?_
  refine W.call (ar := [.slice (some ⟨N1, 0, none⟩) 1 1, .int .i64 3, .int .i64 2]) (X := .tuple ⟨[.int .i64 3, .nilIface]⟩) (fr1 := ⟨[_, _, _, _, _, _, _, _, _, _, .tuple ⟨[.int .i64 3, .nilIface]⟩, _, _, _, _, _, _, _, _, _, _, _, _, _, _, _, _, _], []⟩) hO4 rfl rfl rfl rfl ((c17T _ [e0] 1 _ _ _ _ _ 3 2 (by decide) right0 _ (H8.own (Own.refl s3))).mono fun v _ _ h => h.trans (by rw [goA]; rfl)) rfl ?_
  intro s9 hO10 hS11
  have hE12 := (Own.refl s3).trans hS11
  have r13 := r6.own hS11
  refine W.op (v := .tuple ⟨[.int .i64 3, .nilIface]⟩) (fr1 := ⟨[_, _, _, _, _, _, _, _, .tuple ⟨[.int .i64 3, .nilIface]⟩, _, _, _, _, _, _, _, _, _, _, _, _, _, _, _, _, _, _, _], []⟩) rfl rfl rfl rfl ?_
  refine W.op (v := .int .i64 3) (fr1 := ⟨[_, _, _, _, _, _, _, _, _, _, _, .int .i64 3, _, _, _, _, _, _, _, _, _, _, _, _, _, _, _, _], []⟩) rfl rfl rfl rfl ?_
  refine W.op (v := .nilIface) (fr1 := ⟨[_, _, _, _, _, _, _, _, _, _, _, _, .nilIface, _, _, _, _, _, _, _, _, _, _, _, _, _, _, _], []⟩) rfl rfl rfl rfl ?_
  refine W.op (v := .int .i64 3) (fr1 := ⟨[_, _, .int .i64 3, _, _, _, _, _, _, _, _, _, _, _, _, _, _, _, _, _, _, _, _, _, _, _, _, _], []⟩) rfl rfl rfl rfl ?_
  refine W.op (v := .nilIface) (fr1 := ⟨[_, _, _, .nilIface, _, _, _, _, _, _, _, _, _, _, _, _, _, _, _, _, _, _, _, _, _, _, _, _], []⟩) rfl rfl rfl rfl ?_
  refine EndsOps.nil ?_
  refine Ends.seq ?_
  refine Ends.region ?_
  refine W.op (v := .slice (some ⟨N1, 0, none⟩) 1 1) (fr1 := ⟨[_, _, _, _, _, _, _, _, _, _, _, _, _, _, .slice (some ⟨N1, 0, none⟩) 1 1, _, _, _, _, _, _, _, _, _, _, _, _, _], []⟩) rfl rfl rfl rfl ?_
  refine W.call (ar := [.slice (some ⟨N1, 0, none⟩) 1 1, .int .i64 3, .int .i64 1]) (X := .tuple ⟨[.int .i64 0, .iface 37 (.int .i64 5)]⟩) (fr1 := ⟨[_, _, _, _, _, _, _, _, _, _, _, _, _, _, _, .tuple ⟨[.int .i64 0, .iface 37 (.int .i64 5)]⟩, _, _, _, _, _, _, _, _, _, _, _, _], []⟩) hO10 rfl rfl rfl rfl ((c17T _ [e0] 1 _ _ _ _ _ 3 1 (by decide) right0 _ (H8.own hE12)).mono fun v _ _ h => h.trans (by rw [goB]; rfl)) rfl ?_
  intro s14 hO15 hS16
  have hE17 := hE12.trans hS16
  have r18 := r13.own hS16
  refine W.op (v := .tuple ⟨[.int .i64 0, .iface 37 (.int .i64 5)]⟩) (fr1 := ⟨[_, _, _, _, _, _, _, _, _, _, _, _, _, .tuple ⟨[.int .i64 0, .iface 37 (.int .i64 5)]⟩, _, _, _, _, _, _, _, _, _, _, _, _, _, _], []⟩) rfl rfl rfl rfl ?_
  refine W.op (v := .int .i64 0) (fr1 := ⟨[_, _, _, _, _, _, _, _, _, _, _, _, _, _, _, _, .int .i64 0, _, _, _, _, _, _, _, _, _, _, _], []⟩) rfl rfl rfl rfl ?_
  refine W.op (v := .iface 37 (.int .i64 5)) (fr1 := ⟨[_, _, _, _, _, _, _, _, _, _, _, _, _, _, _, _, _, .iface 37 (.int .i64 5), _, _, _, _, _, _, _, _, _, _], []⟩) rfl rfl rfl rfl ?_
  refine W.op (v := .int .i64 0) (fr1 := ⟨[_, _, _, _, .int .i64 0, _, _, _, _, _, _, _, _, _, _, _, _, _, _, _, _, _, _, _, _, _, _, _], []⟩) rfl rfl rfl rfl ?_
  refine W.op (v := .iface 37 (.int .i64 5)) (fr1 := ⟨[_, _, _, _, _, .iface 37 (.int .i64 5), _, _, _, _, _, _, _, _, _, _, _, _, _, _, _, _, _, _, _, _, _, _], []⟩) rfl rfl rfl rfl ?_
  refine EndsOps.nil ?_
  refine Ends.seq ?_
  refine Ends.region ?_
  refine W.op (v := .nilIface) (fr1 := ⟨[_, _, _, _, _, _, _, _, _, _, _, _, _, _, _, _, _, _, .nilIface, _, _, _, _, _, _, _, _, _], []⟩) rfl rfl rfl rfl ?_
  refine W.op (v := .bool true) (fr1 := ⟨[_, _, _, _, _, _, _, _, _, _, _, _, _, _, _, _, _, _, _, .bool true, _, _, _, _, _, _, _, _], []⟩) rfl rfl rfl rfl ?_
  refine W.op (v := .bool true) (fr1 := ⟨[_, _, _, _, _, _, _, _, _, _, _, _, _, _, _, _, _, _, _, _, .bool true, _, _, _, _, _, _, _], []⟩) rfl rfl rfl rfl ?_
  refine W.op (v := .int .i64 3) (fr1 := ⟨[_, _, _, _, _, _, _, _, _, _, _, _, _, _, _, _, _, _, _, _, _, .int .i64 3, _, _, _, _, _, _], []⟩) rfl rfl rfl rfl ?_
  refine W.op (v := .bool true) (fr1 := ⟨[_, _, _, _, _, _, _, _, _, _, _, _, _, _, _, _, _, _, _, _, _, _, .bool true, _, _, _, _, _], []⟩) rfl rfl rfl rfl ?_
  refine W.op (v := .bool true) (fr1 := ⟨[_, _, _, _, _, _, _, _, _, _, _, _, _, _, _, _, _, _, _, _, _, _, _, .bool true, _, _, _, _], []⟩) rfl rfl rfl rfl ?_
  refine W.op (v := .bool true) (fr1 := ⟨[_, _, _, _, _, _, _, _, _, _, _, _, _, _, _, _, _, _, _, _, _, _, _, _, .bool true, _, _, _], []⟩) rfl rfl rfl rfl ?_
  refine W.op (v := .iface 37 (.int .i64 5)) (fr1 := ⟨[_, _, _, _, _, _, _, _, _, _, _, _, _, _, _, _, _, _, _, _, _, _, _, _, _, .iface 37 (.int .i64 5), _, _], []⟩) rfl rfl rfl rfl ?_
  refine W.call (ar := [.iface 37 (.int .i64 5), .int .i64 5]) (X := .bool true) (fr1 := ⟨[_, _, _, _, _, _, _, _, _, _, _, _, _, _, _, _, _, _, _, _, _, _, _, _, _, _, .bool true, _], []⟩) hO15 rfl rfl rfl rfl (c24 5 5 (by decide) _) rfl ?_
  intro s19 hO20 hS21
  have hE22 := hE17.trans hS21
  have r23 := r18.own hS21
  refine W.op (v := .bool true) (fr1 := ⟨[_, _, _, _, _, _, _, _, _, _, _, _, _, _, _, _, _, _, _, _, _, _, _, _, _, _, _, .bool true], []⟩) rfl rfl rfl rfl ?_
  refine W.op (v := .bool true) (fr1 := ⟨[.bool true, _, _, _, _, _, _, _, _, _, _, _, _, _, _, _, _, _, _, _, _, _, _, _, _, _, _, _], []⟩) rfl rfl rfl rfl ?_
  refine EndsOps.nil ?_
  refine Ends.ret ?_
  exact ⟨rfl, rfl, hO20, by
    show Value.bool true = Value.bool true
    rfl⟩

theorem c4 (al : Option Addr) (l : List Ed) (cl Nl ol : Nat) (vl : List Value) (yl zl : Nat) (n q : Int) (K : ∀ e ∈ l, e.Ok) (s : St) (Hl : Sl Ed.cells 3 s.t s.next al l Nl ol vl yl zl)  : EndsCall R1.T 4 [.slice al l.length cl, .int .i64 n, .int .i64 q] s (fun v _ => v = .bool true) := by
  refine EndsCall.cell1 (fr0 := ⟨[.slice al l.length cl, .int .i64 n, .int .i64 q, undef, undef, undef, undef, undef, undef, undef, undef, undef, undef, undef, undef, undef, undef, undef, undef, undef, undef, undef, undef, undef, undef, undef, undef, undef, undef, undef, undef, undef, undef, undef, undef, undef, undef, undef, undef, undef, undef, undef, undef, undef, undef, undef, undef, undef, undef, undef, undef, undef, undef, undef, undef, undef, undef, undef, undef, undef, undef, undef, undef, undef, undef, undef, undef, undef, undef, undef, undef, undef, undef, undef, undef, undef, undef, undef, undef, undef, undef, undef, undef, undef, undef, undef, undef, undef, undef], []⟩) (by kernel_rfl : R1.T.fn 4 = some ⟨89, (Try.f4.body).getD .skip, [.cell 6 4]⟩) rfl rfl rfl ?_
  have hO0 := Own.refl s
  have Ml := Hl.small
  simp only [Try.f4, Option.getD]
  refine Ends.seq ?_
  refine Ends.region ?_
  obtain ⟨N1, hN2⟩ : ∃ N, N = s.next := ⟨_, rfl⟩
  refine W.new (N := N1) (vs := [.int .i64 q]) (fr1 := ⟨[_, _, _, _, _, .pointer (some ⟨N1, 0, none⟩), _, _, _, _, _, _, _, _, _, _, _, _, _, _, _, _, _, _, _, _, _, _, _, _, _, _, _, _, _, _, _, _, _, _, _, _, _, _, _, _, _, _, _, _, _, _, _, _, _, _, _, _, _, _, _, _, _, _, _, _, _, _, _, _, _, _, _, _, _, _, _, _, _, _, _, _, _, _, _, _, _, _, _], []⟩) hO0 hN2 rfl (p_box rfl) rfl rfl ?_
  intro s3 hO4 hS5 r6 hB7
  obtain ⟨N8, hN9⟩ : ∃ N, N = s3.next := ⟨_, rfl⟩
  have lt_N1_N8 : N1 < N8 := hN9 ▸ r6.lt
  refine W.new (N := N8) (vs := [.bool false]) (fr1 := ⟨[_, _, _, _, _, _, .pointer (some ⟨N8, 0, none⟩), _, _, _, _, _, _, _, _, _, _, _, _, _, _, _, _, _, _, _, _, _, _, _, _, _, _, _, _, _, _, _, _, _, _, _, _, _, _, _, _, _, _, _, _, _, _, _, _, _, _, _, _, _, _, _, _, _, _, _, _, _, _, _, _, _, _, _, _, _, _, _, _, _, _, _, _, _, _, _, _, _, _], []⟩) hO4 hN9 rfl (p_alloc zero4 rfl) rfl rfl ?_
  intro s10 hO11 hS12 r13 hB14
  have r15 := r6.own hS12
  refine EndsOps.nil ?_
  refine Ends.seq ?_
  refine Ends.seq ?_
  refine Ends.region ?_
  refine W.call (ar := []) (X := .bool true) (fr1 := ⟨[_, _, _, _, _, _, _, _, _, _, _, _, _, _, _, _, _, _, .bool true, _, _, _, _, _, _, _, _, _, _, _, _, _, _, _, _, _, _, _, _, _, _, _, _, _, _, _, _, _, _, _, _, _, _, _, _, _, _, _, _, _, _, _, _, _, _, _, _, _, _, _, _, _, _, _, _, _, _, _, _, _, _, _, _, _, _, _, _, _, _], []⟩) hO11 rfl rfl rfl rfl (c15 _) rfl ?_
  intro s16 hO17 hS18
  have r19 := r15.own hS18
  have r20 := r13.own hS18
  refine W.op (v := .bool false) (fr1 := ⟨[_, _, _, _, _, _, _, _, _, _, _, _, _, _, _, _, _, _, _, .bool false, _, _, _, _, _, _, _, _, _, _, _, _, _, _, _, _, _, _, _, _, _, _, _, _, _, _, _, _, _, _, _, _, _, _, _, _, _, _, _, _, _, _, _, _, _, _, _, _, _, _, _, _, _, _, _, _, _, _, _, _, _, _, _, _, _, _, _, _, _], []⟩) rfl rfl rfl rfl ?_
  refine EndsOps.nil ?_
  refine Ends.condF rfl ?_
  refine Ends.skip ?_
  refine Ends.seq ?_
  refine Ends.seq ?_
  refine Ends.region ?_
  refine W.op (v := .int .i64 n) (fr1 := ⟨[_, _, _, _, _, _, _, _, _, _, _, _, _, _, _, _, _, _, _, _, .int .i64 n, _, _, _, _, _, _, _, _, _, _, _, _, _, _, _, _, _, _, _, _, _, _, _, _, _, _, _, _, _, _, _, _, _, _, _, _, _, _, _, _, _, _, _, _, _, _, _, _, _, _, _, _, _, _, _, _, _, _, _, _, _, _, _, _, _, _, _, _], []⟩) rfl rfl rfl rfl ?_
  refine W.op (v := .slice al l.length cl) (fr1 := ⟨[_, _, _, _, _, _, _, _, _, _, _, _, _, _, _, _, _, _, _, _, _, .slice al l.length cl, _, _, _, _, _, _, _, _, _, _, _, _, _, _, _, _, _, _, _, _, _, _, _, _, _, _, _, _, _, _, _, _, _, _, _, _, _, _, _, _, _, _, _, _, _, _, _, _, _, _, _, _, _, _, _, _, _, _, _, _, _, _, _, _, _, _, _], []⟩) rfl rfl rfl rfl ?_
  by_cases h21 : Large3 n l
  · skip
    refine W.call (ar := [.int .i64 n, .slice al l.length cl]) (X := .bool true) (fr1 := ⟨[_, _, _, _, _, _, _, _, _, _, _, _, _, _, _, _, _, _, _, _, _, _, .bool true, _, _, _, _, _, _, _, _, _, _, _, _, _, _, _, _, _, _, _, _, _, _, _, _, _, _, _, _, _, _, _, _, _, _, _, _, _, _, _, _, _, _, _, _, _, _, _, _, _, _, _, _, _, _, _, _, _, _, _, _, _, _, _, _, _, _], []⟩) hO17 rfl rfl rfl rfl ((c16 n _ _ _ _ _ _ _ _ K _ (Hl.own hO17)).mono fun v _ _ g => g.trans (congrArg Value.bool (decide_eq_true h21))) rfl ?_
    intro s22 hO23 hS24
    have r25 := r19.own hS24
    have r26 := r20.own hS24
    refine EndsOps.nil ?_
    refine Ends.condT rfl ?_
    refine Ends.seq ?_
    refine Ends.region ?_
    refine W.store2 (cs := [.bool true]) (vs' := [.bool true]) (fr1 := ⟨[_, _, _, _, _, _, _, _, _, _, _, _, _, _, _, _, _, _, _, _, _, _, _, _, _, _, _, _, _, _, _, _, _, _, _, _, _, _, _, _, _, _, _, _, _, _, _, _, _, _, _, _, _, _, _, _, _, _, _, _, _, _, _, _, _, _, _, _, _, _, _, _, _, _, _, _, _, _, _, _, _, _, _, _, _, _, _, _, _], []⟩) hO23 r26 hB14 rfl rfl rfl rfl (by kernel_rfl) (by simp) (by simp [END, oneCell]) rfl rfl ?_
    intro s27 hO28 hn29 hu30 r31 hX32
    have r33 := r25.upd hn29 hu30 (r25.ne r26 (by decide))
    refine EndsOps.nil ?_
    refine Ends.ret ?_
    exact ⟨rfl, .inl rfl, N8, _, _, _, _, rfl, r31.get, rfl, fun _ => rfl⟩
  · skip
    have hB : l.length ≤ 1000 := by simp only [Large3] at h21; omega
    have hN5 : n ≤ 500 := by simp only [Large3] at h21; omega
    have hT5 : sumT l ≤ 500 := by simp only [Large3] at h21; omega
    refine W.call (ar := [.int .i64 n, .slice al l.length cl]) (X := .bool false) (fr1 := ⟨[_, _, _, _, _, _, _, _, _, _, _, _, _, _, _, _, _, _, _, _, _, _, .bool false, _, _, _, _, _, _, _, _, _, _, _, _, _, _, _, _, _, _, _, _, _, _, _, _, _, _, _, _, _, _, _, _, _, _, _, _, _, _, _, _, _, _, _, _, _, _, _, _, _, _, _, _, _, _, _, _, _, _, _, _, _, _, _, _, _, _], []⟩) hO17 rfl rfl rfl rfl ((c16 n _ _ _ _ _ _ _ _ K _ (Hl.own hO17)).mono fun v _ _ g => g.trans (congrArg Value.bool (decide_eq_false h21))) rfl ?_
    intro s34 hO35 hS36
    have r37 := r19.own hS36
    have r38 := r20.own hS36
    refine EndsOps.nil ?_
    refine Ends.condF rfl ?_
    refine Ends.skip ?_
    refine Ends.seq ?_
    refine Ends.region ?_
    refine W.op (v := .int .i64 q) (fr1 := ⟨[_, _, _, _, _, _, _, _, _, _, _, _, _, _, _, _, _, _, _, _, _, _, _, .int .i64 q, _, _, _, _, _, _, _, _, _, _, _, _, _, _, _, _, _, _, _, _, _, _, _, _, _, _, _, _, _, _, _, _, _, _, _, _, _, _, _, _, _, _, _, _, _, _, _, _, _, _, _, _, _, _, _, _, _, _, _, _, _, _, _, _, _], []⟩) rfl (p_load1 r37 rfl rfl rfl rfl) rfl rfl ?_
    refine W.op (v := .int .u64 (IntKind.u64.wrap q)) (fr1 := ⟨[_, _, _, _, _, _, _, _, _, _, _, _, _, _, _, _, _, _, _, _, _, _, _, _, .int .u64 (IntKind.u64.wrap q), _, _, _, _, _, _, _, _, _, _, _, _, _, _, _, _, _, _, _, _, _, _, _, _, _, _, _, _, _, _, _, _, _, _, _, _, _, _, _, _, _, _, _, _, _, _, _, _, _, _, _, _, _, _, _, _, _, _, _, _, _, _, _, _], []⟩) rfl rfl rfl rfl ?_
    refine W.op (v := .int .u64 ((IntKind.u64.wrap q).tmod 40)) (fr1 := ⟨[_, _, _, _, _, _, _, _, _, _, _, _, _, _, _, _, _, _, _, _, _, _, _, _, _, .int .u64 ((IntKind.u64.wrap q).tmod 40), _, _, _, _, _, _, _, _, _, _, _, _, _, _, _, _, _, _, _, _, _, _, _, _, _, _, _, _, _, _, _, _, _, _, _, _, _, _, _, _, _, _, _, _, _, _, _, _, _, _, _, _, _, _, _, _, _, _, _, _, _, _, _], []⟩) rfl (p_bin (remT (by decide))) rfl rfl ?_
    refine W.op (v := .int .i64 (W ((IntKind.u64.wrap q).tmod 40))) (fr1 := ⟨[_, _, _, _, _, _, _, _, _, _, _, _, _, _, _, _, _, _, _, _, _, _, _, _, _, _, .int .i64 (W ((IntKind.u64.wrap q).tmod 40)), _, _, _, _, _, _, _, _, _, _, _, _, _, _, _, _, _, _, _, _, _, _, _, _, _, _, _, _, _, _, _, _, _, _, _, _, _, _, _, _, _, _, _, _, _, _, _, _, _, _, _, _, _, _, _, _, _, _, _, _, _, _], []⟩) rfl rfl rfl rfl ?_
    obtain ⟨z, hz, hz1, hz2⟩ := stop_ex q
    refine W.op (v := .int .i64 ((z : Nat) : Int)) (fr1 := ⟨[_, _, _, _, _, _, _, _, _, _, _, _, _, _, _, _, _, _, _, _, _, _, _, _, _, _, _, .int .i64 ((z : Nat) : Int), _, _, _, _, _, _, _, _, _, _, _, _, _, _, _, _, _, _, _, _, _, _, _, _, _, _, _, _, _, _, _, _, _, _, _, _, _, _, _, _, _, _, _, _, _, _, _, _, _, _, _, _, _, _, _, _, _, _, _, _, _], []⟩) rfl (p_bin (addW.trans (congrArg (fun z => some (Value.int IntKind.i64 z)) (hz)))) rfl rfl ?_
    refine W.store2 (cs := [.int .i64 ((z : Nat) : Int)]) (vs' := [.int .i64 ((z : Nat) : Int)]) (fr1 := ⟨[_, _, _, _, _, _, _, _, _, _, _, _, _, _, _, _, _, _, _, _, _, _, _, _, _, _, _, _, _, _, _, _, _, _, _, _, _, _, _, _, _, _, _, _, _, _, _, _, _, _, _, _, _, _, _, _, _, _, _, _, _, _, _, _, _, _, _, _, _, _, _, _, _, _, _, _, _, _, _, _, _, _, _, _, _, _, _, _, _], []⟩) hO35 r37 hB7 rfl rfl rfl rfl (by kernel_rfl) (by simp) (by simp [END, oneCell]) rfl rfl ?_
    intro s39 hO40 hn41 hu42 r43 hX44
    have r45 := r38.upd hn41 hu42 (r38.ne r37 (by decide))
    refine EndsOps.nil ?_
    refine Ends.seq ?_
    refine Ends.region ?_
    obtain ⟨N46, hN47⟩ : ∃ N, N = s39.next := ⟨_, rfl⟩
    have lt_N1_N46 : N1 < N46 := hN47 ▸ r43.lt
    have lt_N8_N46 : N8 < N46 := hN47 ▸ r45.lt
    refine W.new (N := N46) (vs := [.int .i64 0]) (fr1 := ⟨[_, _, _, _, _, _, _, .pointer (some ⟨N46, 0, none⟩), _, _, _, _, _, _, _, _, _, _, _, _, _, _, _, _, _, _, _, _, _, _, _, _, _, _, _, _, _, _, _, _, _, _, _, _, _, _, _, _, _, _, _, _, _, _, _, _, _, _, _, _, _, _, _, _, _, _, _, _, _, _, _, _, _, _, _, _, _, _, _, _, _, _, _, _, _, _, _, _, _], []⟩) hO40 hN47 rfl (p_alloc zero3 rfl) rfl rfl ?_
    intro s48 hO49 hS50 r51 hB52
    have r53 := r43.own hS50
    have r54 := r45.own hS50
    obtain ⟨N55, hN56⟩ : ∃ N, N = s48.next := ⟨_, rfl⟩
    have lt_N1_N55 : N1 < N55 := hN56 ▸ r53.lt
    have lt_N8_N55 : N8 < N55 := hN56 ▸ r54.lt
    have lt_N46_N55 : N46 < N55 := hN56 ▸ r51.lt
    refine W.new (N := N55) (vs := [.int .i64 0]) (fr1 := ⟨[_, _, _, _, _, _, _, _, .pointer (some ⟨N55, 0, none⟩), _, _, _, _, _, _, _, _, _, _, _, _, _, _, _, _, _, _, _, _, _, _, _, _, _, _, _, _, _, _, _, _, _, _, _, _, _, _, _, _, _, _, _, _, _, _, _, _, _, _, _, _, _, _, _, _, _, _, _, _, _, _, _, _, _, _, _, _, _, _, _, _, _, _, _, _, _, _, _, _], []⟩) hO49 hN56 rfl (p_alloc zero3 rfl) rfl rfl ?_
    intro s57 hO58 hS59 r60 hB61
    have r62 := r53.own hS59
    have r63 := r54.own hS59
    have r64 := r51.own hS59
    obtain ⟨N65, hN66⟩ : ∃ N, N = s57.next := ⟨_, rfl⟩
    have lt_N1_N65 : N1 < N65 := hN66 ▸ r62.lt
    have lt_N8_N65 : N8 < N65 := hN66 ▸ r63.lt
    have lt_N46_N65 : N46 < N65 := hN66 ▸ r64.lt
    have lt_N55_N65 : N55 < N65 := hN66 ▸ r60.lt
    refine W.new (N := N65) (vs := [.int .i64 0]) (fr1 := ⟨[_, _, _, _, _, _, _, _, _, .pointer (some ⟨N65, 0, none⟩), _, _, _, _, _, _, _, _, _, _, _, _, _, _, _, _, _, _, _, _, _, _, _, _, _, _, _, _, _, _, _, _, _, _, _, _, _, _, _, _, _, _, _, _, _, _, _, _, _, _, _, _, _, _, _, _, _, _, _, _, _, _, _, _, _, _, _, _, _, _, _, _, _, _, _, _, _, _, _], []⟩) hO58 hN66 rfl (p_alloc zero3 rfl) rfl rfl ?_
    intro s67 hO68 hS69 r70 hB71
    have r72 := r62.own hS69
    have r73 := r63.own hS69
    have r74 := r64.own hS69
    have r75 := r60.own hS69
    refine W.store2 (cs := [.int .i64 0]) (vs' := [.int .i64 0]) (fr1 := ⟨[_, _, _, _, _, _, _, _, _, _, _, _, _, _, _, _, _, _, _, _, _, _, _, _, _, _, _, _, _, _, _, _, _, _, _, _, _, _, _, _, _, _, _, _, _, _, _, _, _, _, _, _, _, _, _, _, _, _, _, _, _, _, _, _, _, _, _, _, _, _, _, _, _, _, _, _, _, _, _, _, _, _, _, _, _, _, _, _, _], []⟩) hO68 r74 hB52 rfl rfl rfl rfl (by kernel_rfl) (by simp) (by simp [END, oneCell]) rfl rfl ?_
    intro s76 hO77 hn78 hu79 r80 hX81
    have r82 := r72.upd hn78 hu79 (Nat.ne_of_lt lt_N1_N46)
    have r83 := r73.upd hn78 hu79 (r73.ne r74 (by decide))
    have r84 := r75.upd hn78 hu79 (Nat.ne_of_gt lt_N46_N55)
    have r85 := r70.upd hn78 hu79 (Nat.ne_of_gt lt_N46_N65)
    refine W.store2 (cs := [.int .i64 (-1)]) (vs' := [.int .i64 (-1)]) (fr1 := ⟨[_, _, _, _, _, _, _, _, _, _, _, _, _, _, _, _, _, _, _, _, _, _, _, _, _, _, _, _, _, _, _, _, _, _, _, _, _, _, _, _, _, _, _, _, _, _, _, _, _, _, _, _, _, _, _, _, _, _, _, _, _, _, _, _, _, _, _, _, _, _, _, _, _, _, _, _, _, _, _, _, _, _, _, _, _, _, _, _, _], []⟩) hO77 r84 hB61 rfl rfl rfl rfl (by kernel_rfl) (by simp) (by simp [END, oneCell]) rfl rfl ?_
    intro s86 hO87 hn88 hu89 r90 hX91
    have r92 := r82.upd hn88 hu89 (Nat.ne_of_lt lt_N1_N55)
    have r93 := r83.upd hn88 hu89 (r83.ne r84 (by decide))
    have r94 := r80.upd hn88 hu89 (Nat.ne_of_lt lt_N46_N55)
    have r95 := r85.upd hn88 hu89 (Nat.ne_of_gt lt_N55_N65)
    refine W.store2 (cs := [.int .i64 (-1)]) (vs' := [.int .i64 (-1)]) (fr1 := ⟨[_, _, _, _, _, _, _, _, _, _, _, _, _, _, _, _, _, _, _, _, _, _, _, _, _, _, _, _, _, _, _, _, _, _, _, _, _, _, _, _, _, _, _, _, _, _, _, _, _, _, _, _, _, _, _, _, _, _, _, _, _, _, _, _, _, _, _, _, _, _, _, _, _, _, _, _, _, _, _, _, _, _, _, _, _, _, _, _, _], []⟩) hO87 r95 hB71 rfl rfl rfl rfl (by kernel_rfl) (by simp) (by simp [END, oneCell]) rfl rfl ?_
    intro s96 hO97 hn98 hu99 r100 hX101
    have r102 := r92.upd hn98 hu99 (Nat.ne_of_lt lt_N1_N65)
    have r103 := r93.upd hn98 hu99 (r93.ne r95 (by decide))
    have r104 := r94.upd hn98 hu99 (Nat.ne_of_lt lt_N46_N65)
    have r105 := r90.upd hn98 hu99 (Nat.ne_of_lt lt_N55_N65)
    refine EndsOps.nil ?_
    refine Ends.seq ?_
    refine Ends.seq ?_
    refine Ends.region ?_
    refine W.op (v := .slice al l.length cl) (fr1 := ⟨[_, _, _, _, _, _, _, _, _, _, _, _, _, _, _, _, _, _, _, _, _, _, _, _, _, _, _, _, .slice al l.length cl, _, _, _, _, _, _, _, _, _, _, _, _, _, _, _, _, _, _, _, _, _, _, _, _, _, _, _, _, _, _, _, _, _, _, _, _, _, _, _, _, _, _, _, _, _, _, _, _, _, _, _, _, _, _, _, _, _, _, _, _], []⟩) rfl rfl rfl rfl ?_
    refine W.op (v := .int .i64 n) (fr1 := ⟨[_, _, _, _, _, _, _, _, _, _, _, _, _, _, _, _, _, _, _, _, _, _, _, _, _, _, _, _, _, .int .i64 n, _, _, _, _, _, _, _, _, _, _, _, _, _, _, _, _, _, _, _, _, _, _, _, _, _, _, _, _, _, _, _, _, _, _, _, _, _, _, _, _, _, _, _, _, _, _, _, _, _, _, _, _, _, _, _, _, _, _, _], []⟩) rfl rfl rfl rfl ?_
    refine W.callE (ar := [.slice al l.length cl, .int .i64 n]) (fF := fun v106 => ⟨[_, _, _, _, _, _, _, _, _, _, _, _, _, _, _, _, _, _, _, _, _, _, _, _, _, _, _, _, _, _, v106, _, _, _, _, _, _, _, _, _, _, _, _, _, _, _, _, _, _, _, _, _, _, _, _, _, _, _, _, _, _, _, _, _, _, _, _, _, _, _, _, _, _, _, _, _, _, _, _, _, _, _, _, _, _, _, _, _, _], []⟩) hO97 rfl rfl rfl rfl (c26 al l cl Nl ol vl yl zl n _) (fun _ => rfl) ?_
    intro v106 s107 hR110 hO108 hS109
    have r111 := r102.own hS109
    have r112 := r103.own hS109
    have r113 := r104.own hS109
    have r114 := r105.own hS109
    have r115 := r100.own hS109
    obtain ⟨N116, N117, rfl, r118, r119, hB120, hB121⟩ := hR110
    refine EndsOps.nil ?_
    refine W.block ?_
    refine Ends.rangeFn (g := 68) rfl ?_
    intro D L hD hL s1 hn1 hm1 hg1 hd1 hL1
    have hS1 : Own s107 s1 := ⟨by omega, ⟨[], by rw [hm1]; rfl, fun _ h => by cases h⟩, hg1⟩
    have hO1 := hO108.trans hS1
    have hsL : s.next ≤ L := by have := hO108.next; omega
    have r122 := r111.own hS1
    have r123 := r112.own hS1
    have r124 := r113.own hS1
    have r125 := r114.own hS1
    have r126 := r115.own hS1
    have r127 := r118.own hS1
    have r128 := r119.own hS1
    have hLlt : L < s1.next := by omega
    have hDlt : D < s1.next := by omega
    generalize hr0 : (Loop.mk _ _ _ _ _ _ _ _) = r0 at hL1
    by_cases h129 : Right l n
    · skip
      have hAsc := keptS_asc h129 hN5 hT5
      have hWr : ∀ M, (fun M => M = N1 ∨ M = N8 ∨ M = N46 ∨ M = N55 ∨ M = N65 ∨ M = L ∨ M = D) M → M < s1.next := by
        intro M hM
        rcases hM with h | h | h | h | h | h | h
        · rw [h]; exact r122.lt
        · rw [h]; exact r123.lt
        · rw [h]; exact r124.lt
        · rw [h]; exact r125.lt
        · rw [h]; exact r126.lt
        · rw [h]; exact hLlt
        · rw [h]; exact hDlt
      have hst : ∀ (j : Nat) (t t' : Tree), (fun (j : Nat) (t : Tree) => j < z ∧ t.get N1 = some (.cells [.int .i64 ((z : Nat) : Int)] 3 0) ∧ t.get N8 = some (.cells [.bool false] 4 0) ∧ t.get N46 = some (.cells [.int .i64 ((j : Nat) : Int)] 3 0) ∧ (∃ x y : Int, t.get N55 = some (.cells [.int .i64 x] 3 0) ∧ t.get N65 = some (.cells [.int .i64 y] 3 0) ∧ (j = 0 → x = -1 ∧ y = -1) ∧ ∀ m, j = m + 1 → (keptS l n)[m]? = some (x, y)) ∧ t.get L = some (.obj (.loop r0)) ∧ t.get D = some (.obj (.deferred (some [])))) j t → (∀ M, (fun M => M = N1 ∨ M = N8 ∨ M = N46 ∨ M = N55 ∨ M = N65 ∨ M = L ∨ M = D) M → t'.get M = t.get M) → (fun (j : Nat) (t : Tree) => j < z ∧ t.get N1 = some (.cells [.int .i64 ((z : Nat) : Int)] 3 0) ∧ t.get N8 = some (.cells [.bool false] 4 0) ∧ t.get N46 = some (.cells [.int .i64 ((j : Nat) : Int)] 3 0) ∧ (∃ x y : Int, t.get N55 = some (.cells [.int .i64 x] 3 0) ∧ t.get N65 = some (.cells [.int .i64 y] 3 0) ∧ (j = 0 → x = -1 ∧ y = -1) ∧ ∀ m, j = m + 1 → (keptS l n)[m]? = some (x, y)) ∧ t.get L = some (.obj (.loop r0)) ∧ t.get D = some (.obj (.deferred (some [])))) j t' := by
        rintro j t t' ⟨h1, h2, h3, h4, ⟨x, y, h5, h6, h7, h8⟩, h9, h10⟩ hg
        exact ⟨h1, (hg _ (.inl rfl)).trans h2, (hg _ (.inr (.inl rfl))).trans h3, (hg _ (.inr (.inr (.inl rfl)))).trans h4, ⟨x, y, (hg _ (.inr (.inr (.inr (.inl rfl))))).trans h5, (hg _ (.inr (.inr (.inr (.inr (.inl rfl)))))).trans h6, h7, h8⟩, (hg _ (.inr (.inr (.inr (.inr (.inr (.inl rfl))))))).trans h9, (hg _ (.inr (.inr (.inr (.inr (.inr (.inr rfl))))))).trans h10⟩
      have hI0 : (fun (j : Nat) (t : Tree) => j < z ∧ t.get N1 = some (.cells [.int .i64 ((z : Nat) : Int)] 3 0) ∧ t.get N8 = some (.cells [.bool false] 4 0) ∧ t.get N46 = some (.cells [.int .i64 ((j : Nat) : Int)] 3 0) ∧ (∃ x y : Int, t.get N55 = some (.cells [.int .i64 x] 3 0) ∧ t.get N65 = some (.cells [.int .i64 y] 3 0) ∧ (j = 0 → x = -1 ∧ y = -1) ∧ ∀ m, j = m + 1 → (keptS l n)[m]? = some (x, y)) ∧ t.get L = some (.obj (.loop r0)) ∧ t.get D = some (.obj (.deferred (some [])))) 0 s1.t := ⟨by omega, r122.get, r123.get, r124.get, ⟨-1, -1, r125.get, r126.get, fun _ => ⟨rfl, rfl⟩, fun m h => by omega⟩, hL1, hd1⟩
      have hy : ∀ (j : Nat) (s2 : St) (a b : Int), (keptS l n)[j]? = some (a, b) → (fun (j : Nat) (t : Tree) => j < z ∧ t.get N1 = some (.cells [.int .i64 ((z : Nat) : Int)] 3 0) ∧ t.get N8 = some (.cells [.bool false] 4 0) ∧ t.get N46 = some (.cells [.int .i64 ((j : Nat) : Int)] 3 0) ∧ (∃ x y : Int, t.get N55 = some (.cells [.int .i64 x] 3 0) ∧ t.get N65 = some (.cells [.int .i64 y] 3 0) ∧ (j = 0 → x = -1 ∧ y = -1) ∧ ∀ m, j = m + 1 → (keptS l n)[m]? = some (x, y)) ∧ t.get L = some (.obj (.loop r0)) ∧ t.get D = some (.obj (.deferred (some [])))) j s2.t → Own s s2 → s1.next ≤ s2.next → EndsYield R1.T L [.int .i64 a, .int .i64 b] s2 fun v s3 => Own s s3 ∧ s2.next ≤ s3.next ∧ (∀ M, M < s2.next → ¬ (fun M => M = N1 ∨ M = N8 ∨ M = N46 ∨ M = N55 ∨ M = N65 ∨ M = L ∨ M = D) M → s3.t.get M = s2.t.get M) ∧ ((v = .bool true ∧ (fun (j : Nat) (t : Tree) => j < z ∧ t.get N1 = some (.cells [.int .i64 ((z : Nat) : Int)] 3 0) ∧ t.get N8 = some (.cells [.bool false] 4 0) ∧ t.get N46 = some (.cells [.int .i64 ((j : Nat) : Int)] 3 0) ∧ (∃ x y : Int, t.get N55 = some (.cells [.int .i64 x] 3 0) ∧ t.get N65 = some (.cells [.int .i64 y] 3 0) ∧ (j = 0 → x = -1 ∧ y = -1) ∧ ∀ m, j = m + 1 → (keptS l n)[m]? = some (x, y)) ∧ t.get L = some (.obj (.loop r0)) ∧ t.get D = some (.obj (.deferred (some [])))) (j + 1) s3.t) ∨ (v = .bool false ∧ (fun (t : Tree) => z ≤ (keptS l n).length ∧ t.get N1 = some (.cells [.int .i64 ((z : Nat) : Int)] 3 0) ∧ t.get N8 = some (.cells [.bool false] 4 0) ∧ t.get N46 = some (.cells [.int .i64 ((z : Nat) : Int)] 3 0) ∧ (∃ r : Loop, t.get L = some (.obj (.loop r)) ∧ r.state = .done ∧ r.pending = some (.exit 0)) ∧ t.get D = some (.obj (.deferred (some [])))) s3.t)) := by
        rintro j s2 a b hk ⟨hj, i5, i6, i7, ⟨x, y, i8, i9, hx0, hxm⟩, iL, iD⟩ hO2 hn2
        have hasc : x < a ∧ y < b := by
          rcases Nat.eq_zero_or_pos j with h | h
          · obtain ⟨rfl, rfl⟩ := hx0 h
            subst h
            exact asc_head hAsc (a, b) hk
          · obtain ⟨m, rfl⟩ : ∃ m, j = m + 1 := ⟨j - 1, by omega⟩
            exact asc_get hAsc m (x, y) (a, b) (hxm m rfl) hk
        have hjK : j < (keptS l n).length := (List.getElem?_eq_some_iff.1 hk).1
        have r130 : Row s2.t s2.next N1 _ _ _ := ⟨i5, Nat.lt_of_lt_of_le r122.lt hn2⟩
        have r131 : Row s2.t s2.next N8 _ _ _ := ⟨i6, Nat.lt_of_lt_of_le r123.lt hn2⟩
        have r132 : Row s2.t s2.next N46 _ _ _ := ⟨i7, Nat.lt_of_lt_of_le r124.lt hn2⟩
        have r133 : Row s2.t s2.next N55 _ _ _ := ⟨i8, Nat.lt_of_lt_of_le r125.lt hn2⟩
        have r134 : Row s2.t s2.next N65 _ _ _ := ⟨i9, Nat.lt_of_lt_of_le r126.lt hn2⟩
        subst hr0
        refine EndsYield.of iL rfl rfl ?_
        refine Ends.seq ?_
        refine Ends.region ?_
        refine W.op (v := .int .i64 a) (fr1 := ⟨[_, _, _, _, _, _, _, _, _, _, .int .i64 a, _, _, _, _, _, _, _, _, _, _, _, _, _, _, _, _, _, _, _, _, _, _, _, _, _, _, _, _, _, _, _, _, _, _, _, _, _, _, _, _, _, _, _, _, _, _, _, _, _, _, _, _, _, _, _, _, _, _, _, _, _, _, _, _, _, _, _, _, _, _, _, _, _, _, _, _, _, _], []⟩) rfl rfl rfl rfl ?_
        refine EndsOps.nil ?_
        refine Ends.region ?_
        refine W.op (v := .int .i64 b) (fr1 := ⟨[_, _, _, _, _, _, _, _, _, _, _, .int .i64 b, _, _, _, _, _, _, _, _, _, _, _, _, _, _, _, _, _, _, _, _, _, _, _, _, _, _, _, _, _, _, _, _, _, _, _, _, _, _, _, _, _, _, _, _, _, _, _, _, _, _, _, _, _, _, _, _, _, _, _, _, _, _, _, _, _, _, _, _, _, _, _, _, _, _, _, _, _], []⟩) rfl rfl rfl rfl ?_
        refine EndsOps.nil ?_
        refine ⟨rfl, iL, ?_⟩
        generalize hs140 : Ev.setL s2 L _ = s139
        obtain ⟨g135, g136, g137, g138⟩ := setL_facts hs140
        have hO141 := Own.setL hO2 hsL (by omega) g135 g136 g138
        have r142 := r130.setL g135 g138 ⟨_, iL⟩
        have r143 := r131.setL g135 g138 ⟨_, iL⟩
        have r144 := r132.setL g135 g138 ⟨_, iL⟩
        have r145 := r133.setL g135 g138 ⟨_, iL⟩
        have r146 := r134.setL g135 g138 ⟨_, iL⟩
        have ob147 : Ob s139.t s139.next L _ := ⟨g137, by omega⟩
        refine W.block ?_
        refine Ends.seq ?_
        refine Ends.seq ?_
        refine Ends.region ?_
        refine W.op (v := .int .i64 a) (fr1 := ⟨[_, _, _, _, _, _, _, _, _, _, _, _, _, _, _, _, _, _, _, _, _, _, _, _, _, _, _, _, _, _, _, _, _, .int .i64 a, _, _, _, _, _, _, _, _, _, _, _, _, _, _, _, _, _, _, _, _, _, _, _, _, _, _, _, _, _, _, _, _, _, _, _, _, _, _, _, _, _, _, _, _, _, _, _, _, _, _, _, _, _, _, _], []⟩) rfl rfl rfl rfl ?_
        refine W.op (v := .int .i64 x) (fr1 := ⟨[_, _, _, _, _, _, _, _, _, _, _, _, _, _, _, _, _, _, _, _, _, _, _, _, _, _, _, _, _, _, _, _, _, _, .int .i64 x, _, _, _, _, _, _, _, _, _, _, _, _, _, _, _, _, _, _, _, _, _, _, _, _, _, _, _, _, _, _, _, _, _, _, _, _, _, _, _, _, _, _, _, _, _, _, _, _, _, _, _, _, _, _], []⟩) rfl (p_load1 r145 rfl rfl rfl rfl) rfl rfl ?_
        by_cases h148 : a ≤ x
        · skip
          exact absurd hasc.1 (by omega)
        · skip
          refine W.op (v := .bool false) (fr1 := ⟨[_, _, _, _, _, _, _, _, _, _, _, _, _, _, _, _, _, _, _, _, _, _, _, _, _, _, _, _, _, _, _, _, _, _, _, .bool false, _, _, _, _, _, _, _, _, _, _, _, _, _, _, _, _, _, _, _, _, _, _, _, _, _, _, _, _, _, _, _, _, _, _, _, _, _, _, _, _, _, _, _, _, _, _, _, _, _, _, _, _, _], []⟩) rfl (p_bin (leF h148)) rfl rfl ?_
          refine W.op (v := .bool false) (fr1 := ⟨[_, _, _, _, _, _, _, _, _, _, _, _, _, _, _, _, _, _, _, _, _, _, _, _, _, _, _, _, _, _, _, _, _, _, _, _, .bool false, _, _, _, _, _, _, _, _, _, _, _, _, _, _, _, _, _, _, _, _, _, _, _, _, _, _, _, _, _, _, _, _, _, _, _, _, _, _, _, _, _, _, _, _, _, _, _, _, _, _, _, _], []⟩) rfl rfl rfl rfl ?_
          refine W.op (v := .int .i64 b) (fr1 := ⟨[_, _, _, _, _, _, _, _, _, _, _, _, _, _, _, _, _, _, _, _, _, _, _, _, _, _, _, _, _, _, _, _, _, _, _, _, _, .int .i64 b, _, _, _, _, _, _, _, _, _, _, _, _, _, _, _, _, _, _, _, _, _, _, _, _, _, _, _, _, _, _, _, _, _, _, _, _, _, _, _, _, _, _, _, _, _, _, _, _, _, _, _], []⟩) rfl rfl rfl rfl ?_
          refine W.op (v := .int .i64 y) (fr1 := ⟨[_, _, _, _, _, _, _, _, _, _, _, _, _, _, _, _, _, _, _, _, _, _, _, _, _, _, _, _, _, _, _, _, _, _, _, _, _, _, .int .i64 y, _, _, _, _, _, _, _, _, _, _, _, _, _, _, _, _, _, _, _, _, _, _, _, _, _, _, _, _, _, _, _, _, _, _, _, _, _, _, _, _, _, _, _, _, _, _, _, _, _, _], []⟩) rfl (p_load1 r146 rfl rfl rfl rfl) rfl rfl ?_
          by_cases h149 : b ≤ y
          · skip
            exact absurd hasc.2 (by omega)
          · skip
            refine W.op (v := .bool false) (fr1 := ⟨[_, _, _, _, _, _, _, _, _, _, _, _, _, _, _, _, _, _, _, _, _, _, _, _, _, _, _, _, _, _, _, _, _, _, _, _, _, _, _, .bool false, _, _, _, _, _, _, _, _, _, _, _, _, _, _, _, _, _, _, _, _, _, _, _, _, _, _, _, _, _, _, _, _, _, _, _, _, _, _, _, _, _, _, _, _, _, _, _, _, _], []⟩) rfl (p_bin (leF h149)) rfl rfl ?_
            refine W.op (v := .bool false) (fr1 := ⟨[_, _, _, _, _, _, _, _, _, _, _, _, _, _, _, _, _, _, _, _, _, _, _, _, _, _, _, _, _, _, _, _, _, _, _, _, _, _, _, _, .bool false, _, _, _, _, _, _, _, _, _, _, _, _, _, _, _, _, _, _, _, _, _, _, _, _, _, _, _, _, _, _, _, _, _, _, _, _, _, _, _, _, _, _, _, _, _, _, _, _], []⟩) rfl rfl rfl rfl ?_
            refine EndsOps.nil ?_
            refine Ends.condF rfl ?_
            refine Ends.skip ?_
            refine Ends.seq ?_
            refine Ends.region ?_
            refine W.op (v := .int .i64 a) (fr1 := ⟨[_, _, _, _, _, _, _, _, _, _, _, _, _, _, _, _, _, _, _, _, _, _, _, _, _, _, _, _, _, _, _, _, _, _, _, _, _, _, _, _, _, .int .i64 a, _, _, _, _, _, _, _, _, _, _, _, _, _, _, _, _, _, _, _, _, _, _, _, _, _, _, _, _, _, _, _, _, _, _, _, _, _, _, _, _, _, _, _, _, _, _, _], []⟩) rfl rfl rfl rfl ?_
            refine W.op (v := .int .i64 b) (fr1 := ⟨[_, _, _, _, _, _, _, _, _, _, _, _, _, _, _, _, _, _, _, _, _, _, _, _, _, _, _, _, _, _, _, _, _, _, _, _, _, _, _, _, _, _, .int .i64 b, _, _, _, _, _, _, _, _, _, _, _, _, _, _, _, _, _, _, _, _, _, _, _, _, _, _, _, _, _, _, _, _, _, _, _, _, _, _, _, _, _, _, _, _, _, _], []⟩) rfl rfl rfl rfl ?_
            refine W.store2 (cs := [.int .i64 a]) (vs' := [.int .i64 a]) (fr1 := ⟨[_, _, _, _, _, _, _, _, _, _, _, _, _, _, _, _, _, _, _, _, _, _, _, _, _, _, _, _, _, _, _, _, _, _, _, _, _, _, _, _, _, _, _, _, _, _, _, _, _, _, _, _, _, _, _, _, _, _, _, _, _, _, _, _, _, _, _, _, _, _, _, _, _, _, _, _, _, _, _, _, _, _, _, _, _, _, _, _, _], []⟩) hO141 r145 hB61 rfl rfl rfl rfl (by kernel_rfl) (by simp) (by simp [END, oneCell]) rfl rfl ?_
            intro s150 hO151 hn152 hu153 r154 hX155
            have ob156 := ob147.upd hn152 hu153 ⟨_, ⟨_, _, _, rfl⟩, r145.get⟩
            have r157 := r142.upd hn152 hu153 (Nat.ne_of_lt lt_N1_N55)
            have r158 := r143.upd hn152 hu153 (r143.ne r145 (by decide))
            have r159 := r144.upd hn152 hu153 (Nat.ne_of_lt lt_N46_N55)
            have r160 := r146.upd hn152 hu153 (Nat.ne_of_gt lt_N55_N65)
            refine W.store2 (cs := [.int .i64 b]) (vs' := [.int .i64 b]) (fr1 := ⟨[_, _, _, _, _, _, _, _, _, _, _, _, _, _, _, _, _, _, _, _, _, _, _, _, _, _, _, _, _, _, _, _, _, _, _, _, _, _, _, _, _, _, _, _, _, _, _, _, _, _, _, _, _, _, _, _, _, _, _, _, _, _, _, _, _, _, _, _, _, _, _, _, _, _, _, _, _, _, _, _, _, _, _, _, _, _, _, _, _], []⟩) hO151 r160 hB71 rfl rfl rfl rfl (by kernel_rfl) (by simp) (by simp [END, oneCell]) rfl rfl ?_
            intro s161 hO162 hn163 hu164 r165 hX166
            have ob167 := ob156.upd hn163 hu164 ⟨_, ⟨_, _, _, rfl⟩, r160.get⟩
            have r168 := r157.upd hn163 hu164 (Nat.ne_of_lt lt_N1_N65)
            have r169 := r158.upd hn163 hu164 (r158.ne r160 (by decide))
            have r170 := r159.upd hn163 hu164 (Nat.ne_of_lt lt_N46_N65)
            have r171 := r154.upd hn163 hu164 (Nat.ne_of_lt lt_N55_N65)
            refine EndsOps.nil ?_
            refine Ends.seq ?_
            refine Ends.region ?_
            refine W.op (v := .int .i64 ((j : Nat) : Int)) (fr1 := ⟨[_, _, _, _, _, _, _, _, _, _, _, _, _, _, _, _, _, _, _, _, _, _, _, _, _, _, _, _, _, _, _, _, _, _, _, _, _, _, _, _, _, _, _, .int .i64 ((j : Nat) : Int), _, _, _, _, _, _, _, _, _, _, _, _, _, _, _, _, _, _, _, _, _, _, _, _, _, _, _, _, _, _, _, _, _, _, _, _, _, _, _, _, _, _, _, _, _], []⟩) rfl (p_load1 r170 rfl rfl rfl rfl) rfl rfl ?_
            refine W.op (v := .int .i64 ((j + 1 : Nat) : Int)) (fr1 := ⟨[_, _, _, _, _, _, _, _, _, _, _, _, _, _, _, _, _, _, _, _, _, _, _, _, _, _, _, _, _, _, _, _, _, _, _, _, _, _, _, _, _, _, _, _, .int .i64 ((j + 1 : Nat) : Int), _, _, _, _, _, _, _, _, _, _, _, _, _, _, _, _, _, _, _, _, _, _, _, _, _, _, _, _, _, _, _, _, _, _, _, _, _, _, _, _, _, _, _, _], []⟩) rfl (p_bin (addI (by omega) (by omega) (by omega))) rfl rfl ?_
            refine W.store2 (cs := [.int .i64 ((j + 1 : Nat) : Int)]) (vs' := [.int .i64 ((j + 1 : Nat) : Int)]) (fr1 := ⟨[_, _, _, _, _, _, _, _, _, _, _, _, _, _, _, _, _, _, _, _, _, _, _, _, _, _, _, _, _, _, _, _, _, _, _, _, _, _, _, _, _, _, _, _, _, _, _, _, _, _, _, _, _, _, _, _, _, _, _, _, _, _, _, _, _, _, _, _, _, _, _, _, _, _, _, _, _, _, _, _, _, _, _, _, _, _, _, _, _], []⟩) hO162 r170 hB52 rfl rfl rfl rfl (by kernel_rfl) (by simp) (by simp [END, oneCell]) rfl rfl ?_
            intro s172 hO173 hn174 hu175 r176 hX177
            have ob178 := ob167.upd hn174 hu175 ⟨_, ⟨_, _, _, rfl⟩, r170.get⟩
            have r179 := r168.upd hn174 hu175 (Nat.ne_of_lt lt_N1_N46)
            have r180 := r169.upd hn174 hu175 (r169.ne r170 (by decide))
            have r181 := r171.upd hn174 hu175 (Nat.ne_of_gt lt_N46_N55)
            have r182 := r165.upd hn174 hu175 (Nat.ne_of_gt lt_N46_N65)
            refine EndsOps.nil ?_
            refine Ends.seq ?_
            refine Ends.region ?_
            refine W.op (v := .int .i64 ((j + 1 : Nat) : Int)) (fr1 := ⟨[_, _, _, _, _, _, _, _, _, _, _, _, _, _, _, _, _, _, _, _, _, _, _, _, _, _, _, _, _, _, _, _, _, _, _, _, _, _, _, _, _, _, _, _, _, .int .i64 ((j + 1 : Nat) : Int), _, _, _, _, _, _, _, _, _, _, _, _, _, _, _, _, _, _, _, _, _, _, _, _, _, _, _, _, _, _, _, _, _, _, _, _, _, _, _, _, _, _, _], []⟩) rfl (p_load1 r176 rfl rfl rfl rfl) rfl rfl ?_
            refine W.op (v := .int .i64 ((z : Nat) : Int)) (fr1 := ⟨[_, _, _, _, _, _, _, _, _, _, _, _, _, _, _, _, _, _, _, _, _, _, _, _, _, _, _, _, _, _, _, _, _, _, _, _, _, _, _, _, _, _, _, _, _, _, .int .i64 ((z : Nat) : Int), _, _, _, _, _, _, _, _, _, _, _, _, _, _, _, _, _, _, _, _, _, _, _, _, _, _, _, _, _, _, _, _, _, _, _, _, _, _, _, _, _, _], []⟩) rfl (p_load1 r179 rfl rfl rfl rfl) rfl rfl ?_
            by_cases h183 : ((j + 1 : Nat) : Int) = ((z : Nat) : Int)
            · skip
              refine W.op (v := .bool true) (fr1 := ⟨[_, _, _, _, _, _, _, _, _, _, _, _, _, _, _, _, _, _, _, _, _, _, _, _, _, _, _, _, _, _, _, _, _, _, _, _, _, _, _, _, _, _, _, _, _, _, _, .bool true, _, _, _, _, _, _, _, _, _, _, _, _, _, _, _, _, _, _, _, _, _, _, _, _, _, _, _, _, _, _, _, _, _, _, _, _, _, _, _, _, _], []⟩) rfl (p_bin (eqT h183)) rfl rfl ?_
              refine EndsOps.nil ?_
              refine Ends.condT rfl ?_
              refine Ends.exit ?_
              refine W.outF (by decide) ?_
              refine ⟨rfl, ob178.get, ?_⟩
              generalize hs189 : Ev.setL s172 L _ = s188
              obtain ⟨g184, g185, g186, g187⟩ := setL_facts hs189
              have hO190 := Own.setL hO173 hsL (by omega) g184 g185 g187
              have r191 := r179.setL g184 g187 ⟨_, ob178.get⟩
              have r192 := r180.setL g184 g187 ⟨_, ob178.get⟩
              have r193 := r176.setL g184 g187 ⟨_, ob178.get⟩
              have r194 := r181.setL g184 g187 ⟨_, ob178.get⟩
              have r195 := r182.setL g184 g187 ⟨_, ob178.get⟩
              refine ⟨hO190, by omega, fun M hM hW => ?_, ?_⟩
              · simp only [not_or] at hW
                obtain ⟨w5, w6, w7, w8, w9, wL, wD⟩ := hW
                rw [g187 M wL, hu175 M w7, hu164 M w9, hu153 M w8, g138 M wL]
              · exact .inr ⟨rfl, by omega, r191.get, r192.get, (by have h := r193.get; rw [show ((j + 1 : Nat) : Int) = ((z : Nat) : Int) by omega] at h; exact h), ⟨_, g186, rfl, rfl⟩, by rw [g187 D (by omega), hu175 D (fun h => by subst h; have := i7.symm.trans iD; cases this), hu164 D (fun h => by subst h; have := i9.symm.trans iD; cases this), hu153 D (fun h => by subst h; have := i8.symm.trans iD; cases this), g138 D (by omega)]; exact iD⟩
            · skip
              refine W.op (v := .bool false) (fr1 := ⟨[_, _, _, _, _, _, _, _, _, _, _, _, _, _, _, _, _, _, _, _, _, _, _, _, _, _, _, _, _, _, _, _, _, _, _, _, _, _, _, _, _, _, _, _, _, _, _, .bool false, _, _, _, _, _, _, _, _, _, _, _, _, _, _, _, _, _, _, _, _, _, _, _, _, _, _, _, _, _, _, _, _, _, _, _, _, _, _, _, _, _], []⟩) rfl (p_bin (eqF h183)) rfl rfl ?_
              refine EndsOps.nil ?_
              refine Ends.condF rfl ?_
              refine Ends.skip ?_
              refine ⟨rfl, ob178.get, ?_⟩
              generalize hs201 : Ev.setL s172 L _ = s200
              obtain ⟨g196, g197, g198, g199⟩ := setL_facts hs201
              have hO202 := Own.setL hO173 hsL (by omega) g196 g197 g199
              have r203 := r179.setL g196 g199 ⟨_, ob178.get⟩
              have r204 := r180.setL g196 g199 ⟨_, ob178.get⟩
              have r205 := r176.setL g196 g199 ⟨_, ob178.get⟩
              have r206 := r181.setL g196 g199 ⟨_, ob178.get⟩
              have r207 := r182.setL g196 g199 ⟨_, ob178.get⟩
              refine ⟨hO202, by omega, fun M hM hW => ?_, ?_⟩
              · simp only [not_or] at hW
                obtain ⟨w5, w6, w7, w8, w9, wL, wD⟩ := hW
                rw [g199 M wL, hu175 M w7, hu164 M w9, hu153 M w8, g138 M wL]
              · exact .inl ⟨rfl, by omega, r203.get, r204.get, r205.get, ⟨a, b, r206.get, r207.get, fun h => by omega, fun m hm => by have hmj : m = j := (by omega); subst hmj; exact hk⟩, g198, by rw [g199 D (by omega), hu175 D (fun h => by subst h; have := i7.symm.trans iD; cases this), hu164 D (fun h => by subst h; have := i9.symm.trans iD; cases this), hu153 D (fun h => by subst h; have := i8.symm.trans iD; cases this), g138 D (by omega)]; exact iD⟩
      refine EndsCall.mono (c68 _ _ _ _ _ _ _ _ n hB (by omega) h129 L _ _ _ _ s s1 hO1 (Hl.own hO1) r127 r128 (fun M => M = N1 ∨ M = N8 ∨ M = N46 ∨ M = N55 ∨ M = N65 ∨ M = L ∨ M = D) hWr (fun (j : Nat) (t : Tree) => j < z ∧ t.get N1 = some (.cells [.int .i64 ((z : Nat) : Int)] 3 0) ∧ t.get N8 = some (.cells [.bool false] 4 0) ∧ t.get N46 = some (.cells [.int .i64 ((j : Nat) : Int)] 3 0) ∧ (∃ x y : Int, t.get N55 = some (.cells [.int .i64 x] 3 0) ∧ t.get N65 = some (.cells [.int .i64 y] 3 0) ∧ (j = 0 → x = -1 ∧ y = -1) ∧ ∀ m, j = m + 1 → (keptS l n)[m]? = some (x, y)) ∧ t.get L = some (.obj (.loop r0)) ∧ t.get D = some (.obj (.deferred (some [])))) hst (fun (t : Tree) => z ≤ (keptS l n).length ∧ t.get N1 = some (.cells [.int .i64 ((z : Nat) : Int)] 3 0) ∧ t.get N8 = some (.cells [.bool false] 4 0) ∧ t.get N46 = some (.cells [.int .i64 ((z : Nat) : Int)] 3 0) ∧ (∃ r : Loop, t.get L = some (.obj (.loop r)) ∧ r.state = .done ∧ r.pending = some (.exit 0)) ∧ t.get D = some (.obj (.deferred (some [])))) hy hI0) ?_
      rintro v s2 ⟨hO2, hn2, ⟨hj, i5, i6, i7, _, iL, iD⟩ | ⟨hj, i5, i6, i7, ⟨rl, iL, hst1, hst2⟩, iD⟩⟩
      · skip
        obtain ⟨cnt, hcnt, i7⟩ : ∃ cnt : Nat, (cnt = if (keptS l n).length < z then (keptS l n).length else z) ∧ s2.t.get N46 = some (.cells [.int .i64 ((cnt : Nat) : Int)] 3 0) := ⟨_, (if_pos hj).symm, i7⟩
        have r208 : Row s2.t s2.next N1 _ _ _ := ⟨i5, Nat.lt_of_lt_of_le r122.lt hn2⟩
        have r209 : Row s2.t s2.next N8 _ _ _ := ⟨i6, Nat.lt_of_lt_of_le r123.lt hn2⟩
        have r210 : Row s2.t s2.next N46 _ _ _ := ⟨i7, Nat.lt_of_lt_of_le r124.lt hn2⟩
        have hp0 : r0.pending = none := by subst hr0; rfl
        refine ⟨r0, iL, by subst hr0; nofun, ?_⟩
        generalize hs216 : Ev.setL s2 L _ = s215
        obtain ⟨g211, g212, g213, g214⟩ := setL_facts hs216
        have hO217 := Own.setL hO2 hsL (by omega) g211 g212 g214
        have r218 := r208.setL g211 g214 ⟨_, iL⟩
        have r219 := r209.setL g211 g214 ⟨_, iL⟩
        have r220 := r210.setL g211 g214 ⟨_, iL⟩
        rw [hp0]
        have ob221 : Ob s215.t s215.next D (.deferred (some [])) := ⟨(g214 D (by omega)).trans iD, by omega⟩
        refine Ends.seq ?_
        refine Ends.seq ?_
        refine Ends.region ?_
        refine W.op (v := .slice al l.length cl) (fr1 := ⟨[_, _, _, _, _, _, _, _, _, _, _, _, _, _, _, _, _, _, _, _, _, _, _, _, _, _, _, _, _, _, _, _, _, _, _, _, _, _, _, _, _, _, _, _, _, _, _, _, .slice al l.length cl, _, _, _, _, _, _, _, _, _, _, _, _, _, _, _, _, _, _, _, _, _, _, _, _, _, _, _, _, _, _, _, _, _, _, _, _, _, _, _, _], [D]⟩) rfl rfl rfl rfl ?_
        refine W.op (v := .int .i64 n) (fr1 := ⟨[_, _, _, _, _, _, _, _, _, _, _, _, _, _, _, _, _, _, _, _, _, _, _, _, _, _, _, _, _, _, _, _, _, _, _, _, _, _, _, _, _, _, _, _, _, _, _, _, _, .int .i64 n, _, _, _, _, _, _, _, _, _, _, _, _, _, _, _, _, _, _, _, _, _, _, _, _, _, _, _, _, _, _, _, _, _, _, _, _, _, _, _], [D]⟩) rfl rfl rfl rfl ?_
        refine W.call (ar := [.slice al l.length cl, .int .i64 n]) (X := .bool true) (fr1 := ⟨[_, _, _, _, _, _, _, _, _, _, _, _, _, _, _, _, _, _, _, _, _, _, _, _, _, _, _, _, _, _, _, _, _, _, _, _, _, _, _, _, _, _, _, _, _, _, _, _, _, _, .bool true, _, _, _, _, _, _, _, _, _, _, _, _, _, _, _, _, _, _, _, _, _, _, _, _, _, _, _, _, _, _, _, _, _, _, _, _, _, _], [D]⟩) hO217 rfl rfl rfl rfl ((c23 _ _ _ _ _ _ _ _ n _ (Hl.own hO217)).mono fun v _ _ h => h.trans (congrArg Value.bool (decide_eq_true h129))) rfl ?_
        intro s222 hO223 hS224
        have ob225 := ob221.own hS224
        have r226 := r218.own hS224
        have r227 := r219.own hS224
        have r228 := r220.own hS224
        refine W.op (v := .bool false) (fr1 := ⟨[_, _, _, _, _, _, _, _, _, _, _, _, _, _, _, _, _, _, _, _, _, _, _, _, _, _, _, _, _, _, _, _, _, _, _, _, _, _, _, _, _, _, _, _, _, _, _, _, _, _, _, .bool false, _, _, _, _, _, _, _, _, _, _, _, _, _, _, _, _, _, _, _, _, _, _, _, _, _, _, _, _, _, _, _, _, _, _, _, _, _], [D]⟩) rfl rfl rfl rfl ?_
        refine EndsOps.nil ?_
        refine Ends.condF rfl ?_
        refine Ends.skip ?_
        refine Ends.seq ?_
        refine Ends.region ?_
        refine W.op (v := .int .i64 0) (fr1 := ⟨[_, _, _, _, _, _, _, _, _, _, _, _, .int .i64 0, _, _, _, _, _, _, _, _, _, _, _, _, _, _, _, _, _, _, _, _, _, _, _, _, _, _, _, _, _, _, _, _, _, _, _, _, _, _, _, _, _, _, _, _, _, _, _, _, _, _, _, _, _, _, _, _, _, _, _, _, _, _, _, _, _, _, _, _, _, _, _, _, _, _, _, _], [D]⟩) rfl rfl rfl rfl ?_
        refine EndsOps.nil ?_
        refine Ends.seq ?_
        refine Ends.seq ?_
        refine Ends.region ?_
        refine W.op (v := .int .i64 n) (fr1 := ⟨[_, _, _, _, _, _, _, _, _, _, _, _, _, _, _, _, _, _, _, _, _, _, _, _, _, _, _, _, _, _, _, _, _, _, _, _, _, _, _, _, _, _, _, _, _, _, _, _, _, _, _, _, _, _, .int .i64 n, _, _, _, _, _, _, _, _, _, _, _, _, _, _, _, _, _, _, _, _, _, _, _, _, _, _, _, _, _, _, _, _, _, _], [D]⟩) rfl rfl rfl rfl ?_
        refine W.op (v := .int .i64 0) (fr1 := ⟨[_, _, _, _, _, _, _, _, _, _, _, _, _, _, _, _, _, _, _, _, _, _, _, _, _, _, _, _, _, _, _, _, _, _, _, _, _, _, _, _, _, _, _, _, _, _, _, _, _, _, _, _, _, _, _, .int .i64 0, _, _, _, _, _, _, _, _, _, _, _, _, _, _, _, _, _, _, _, _, _, _, _, _, _, _, _, _, _, _, _, _, _], [D]⟩) rfl rfl rfl rfl ?_
        refine EndsOps.nil ?_
        refine W.block ?_
        refine Ends.loopInv (fun d fr s1 => ∃ (i : Nat) (m : Nat) (j13 j14 j15 j16 j17 j56 j57 j58 j59 j60 j61 j62 j63 j64 j65 j66 j67 j68 j69 j70 j71 j72 j73 j74 j75 j76 j77 j78 j79 j80 j81 j82 j83 : Value), fr = ⟨[.slice al l.length cl, .int .i64 n, .int .i64 q, undef, undef, .pointer (some ⟨N1, 0, none⟩), .pointer (some ⟨N8, 0, none⟩), .pointer (some ⟨N46, 0, none⟩), .pointer (some ⟨N55, 0, none⟩), .pointer (some ⟨N65, 0, none⟩), undef, undef, .int .i64 ((m : Nat) : Int), j13, j14, j15, j16, j17, .bool true, .bool false, .int .i64 n, .slice al l.length cl, .bool false, .int .i64 q, .int .u64 (IntKind.u64.wrap q), .int .u64 ((IntKind.u64.wrap q).tmod 40), .int .i64 (W ((IntKind.u64.wrap q).tmod 40)), .int .i64 ((z : Nat) : Int), .slice al l.length cl, .int .i64 n, .func (.func 68) ⟨[]⟩ ⟨[.pointer (some ⟨N116, 0, none⟩), .pointer (some ⟨N117, 0, none⟩)]⟩, undef, undef, undef, undef, undef, undef, undef, undef, undef, undef, undef, undef, undef, undef, undef, undef, undef, .slice al l.length cl, .int .i64 n, .bool true, .bool false, undef, undef, .int .i64 n, .int .i64 ((i : Nat) : Int), j56, j57, j58, j59, j60, j61, j62, j63, j64, j65, j66, j67, j68, j69, j70, j71, j72, j73, j74, j75, j76, j77, j78, j79, j80, j81, j82, j83, undef, undef, undef, undef, undef], [D]⟩ ∧ Own s s1 ∧ d = (n - ((i : Nat) : Int)).toNat ∧ (m = cntK (keptS l n) ((i : Nat) : Int)) ∧ (m ≤ i) ∧ (((i : Nat) : Int) ≤ n) ∧ (Row s1.t s1.next N1 [.int .i64 ((z : Nat) : Int)] 3 0) ∧ (Row s1.t s1.next N8 [.bool false] 4 0) ∧ (Row s1.t s1.next N46 [.int .i64 ((cnt : Nat) : Int)] 3 0) ∧ (Ob s1.t s1.next D (.deferred (some [])))) ?_ _ _ _ ⟨0, 0, _, _, _, _, _, _, _, _, _, _, _, _, _, _, _, _, _, _, _, _, _, _, _, _, _, _, _, _, _, _, _, _, _, rfl, hO223, rfl, (cnt_zero h129).symm, Nat.le_refl _, (by have := h129.1; omega), r226, r227, r228, ob225⟩
        rintro d _ s229 ⟨i, m, j13, j14, j15, j16, j17, j56, j57, j58, j59, j60, j61, j62, j63, j64, j65, j66, j67, j68, j69, j70, j71, j72, j73, j74, j75, j76, j77, j78, j79, j80, j81, j82, j83, rfl, hO230, hd231, hm, hmi, hin, qN1, qN8, qN46, obD⟩
        refine Ends.seq ?_
        refine Ends.region ?_
        by_cases h232 : ((i : Nat) : Int) < n
        · skip
          refine W.op (v := .bool true) (fr1 := ⟨[_, _, _, _, _, _, _, _, _, _, _, _, _, _, _, _, _, _, _, _, _, _, _, _, _, _, _, _, _, _, _, _, _, _, _, _, _, _, _, _, _, _, _, _, _, _, _, _, _, _, _, _, _, _, _, _, .bool true, _, _, _, _, _, _, _, _, _, _, _, _, _, _, _, _, _, _, _, _, _, _, _, _, _, _, _, _, _, _, _, _], [D]⟩) rfl (p_bin (ltT h232)) rfl rfl ?_
          refine EndsOps.nil ?_
          refine Ends.seq ?_
          refine Ends.condT rfl ?_
          refine Ends.skip ?_
          refine Ends.seq ?_
          refine W.block ?_
          refine Ends.seq ?_
          refine Ends.region ?_
          refine W.op (v := .int .i64 ((i : Nat) : Int)) (fr1 := ⟨[_, _, _, _, _, _, _, _, _, _, _, _, _, _, _, _, _, _, _, _, _, _, _, _, _, _, _, _, _, _, _, _, _, _, _, _, _, _, _, _, _, _, _, _, _, _, _, _, _, _, _, _, _, _, _, _, _, .int .i64 ((i : Nat) : Int), _, _, _, _, _, _, _, _, _, _, _, _, _, _, _, _, _, _, _, _, _, _, _, _, _, _, _, _, _, _, _], [D]⟩) rfl rfl rfl rfl ?_
          refine W.op (v := .int .i64 ((i : Nat) : Int)) (fr1 := ⟨[_, _, _, _, _, _, _, _, _, _, _, _, _, .int .i64 ((i : Nat) : Int), _, _, _, _, _, _, _, _, _, _, _, _, _, _, _, _, _, _, _, _, _, _, _, _, _, _, _, _, _, _, _, _, _, _, _, _, _, _, _, _, _, _, _, _, _, _, _, _, _, _, _, _, _, _, _, _, _, _, _, _, _, _, _, _, _, _, _, _, _, _, _, _, _, _, _], [D]⟩) rfl rfl rfl rfl ?_
          refine EndsOps.nil ?_
          refine Ends.seq ?_
          refine Ends.region ?_
          refine W.op (v := .slice al l.length cl) (fr1 := ⟨[_, _, _, _, _, _, _, _, _, _, _, _, _, _, _, _, _, _, _, _, _, _, _, _, _, _, _, _, _, _, _, _, _, _, _, _, _, _, _, _, _, _, _, _, _, _, _, _, _, _, _, _, _, _, _, _, _, _, _, .slice al l.length cl, _, _, _, _, _, _, _, _, _, _, _, _, _, _, _, _, _, _, _, _, _, _, _, _, _, _, _, _, _], [D]⟩) rfl rfl rfl rfl ?_
          refine W.op (v := .int .i64 n) (fr1 := ⟨[_, _, _, _, _, _, _, _, _, _, _, _, _, _, _, _, _, _, _, _, _, _, _, _, _, _, _, _, _, _, _, _, _, _, _, _, _, _, _, _, _, _, _, _, _, _, _, _, _, _, _, _, _, _, _, _, _, _, _, _, .int .i64 n, _, _, _, _, _, _, _, _, _, _, _, _, _, _, _, _, _, _, _, _, _, _, _, _, _, _, _, _], [D]⟩) rfl rfl rfl rfl ?_
          refine W.op (v := .int .i64 ((i : Nat) : Int)) (fr1 := ⟨[_, _, _, _, _, _, _, _, _, _, _, _, _, _, _, _, _, _, _, _, _, _, _, _, _, _, _, _, _, _, _, _, _, _, _, _, _, _, _, _, _, _, _, _, _, _, _, _, _, _, _, _, _, _, _, _, _, _, _, _, _, .int .i64 ((i : Nat) : Int), _, _, _, _, _, _, _, _, _, _, _, _, _, _, _, _, _, _, _, _, _, _, _, _, _, _, _], [D]⟩) rfl rfl rfl rfl ?_
          refine W.call (ar := [.slice al l.length cl, .int .i64 n, .int .i64 ((i : Nat) : Int)]) (X := .tuple ⟨[.int .i64 ((goS l n ((i : Nat) : Int)).1), errV ((goS l n ((i : Nat) : Int)).2)]⟩) (fr1 := ⟨[_, _, _, _, _, _, _, _, _, _, _, _, _, _, _, _, _, _, _, _, _, _, _, _, _, _, _, _, _, _, _, _, _, _, _, _, _, _, _, _, _, _, _, _, _, _, _, _, _, _, _, _, _, _, _, _, _, _, _, _, _, _, .tuple ⟨[.int .i64 ((goS l n ((i : Nat) : Int)).1), errV ((goS l n ((i : Nat) : Int)).2)]⟩, _, _, _, _, _, _, _, _, _, _, _, _, _, _, _, _, _, _, _, _, _, _, _, _, _, _], [D]⟩) hO230 rfl rfl rfl rfl (c17T _ _ _ _ _ _ _ _ n ((i : Nat) : Int) hB h129 _ (Hl.own hO230)) rfl ?_
          intro s233 hO234 hS235
          have ob236 := obD.own hS235
          have r237 := qN1.own hS235
          have r238 := qN8.own hS235
          have r239 := qN46.own hS235
          refine W.op (v := .tuple ⟨[.int .i64 ((goS l n ((i : Nat) : Int)).1), errV ((goS l n ((i : Nat) : Int)).2)]⟩) (fr1 := ⟨[_, _, _, _, _, _, _, _, _, _, _, _, _, _, _, _, _, _, _, _, _, _, _, _, _, _, _, _, _, _, _, _, _, _, _, _, _, _, _, _, _, _, _, _, _, _, _, _, _, _, _, _, _, _, _, _, _, _, .tuple ⟨[.int .i64 ((goS l n ((i : Nat) : Int)).1), errV ((goS l n ((i : Nat) : Int)).2)]⟩, _, _, _, _, _, _, _, _, _, _, _, _, _, _, _, _, _, _, _, _, _, _, _, _, _, _, _, _, _, _], [D]⟩) rfl rfl rfl rfl ?_
          refine W.op (v := .int .i64 ((goS l n ((i : Nat) : Int)).1)) (fr1 := ⟨[_, _, _, _, _, _, _, _, _, _, _, _, _, _, _, _, _, _, _, _, _, _, _, _, _, _, _, _, _, _, _, _, _, _, _, _, _, _, _, _, _, _, _, _, _, _, _, _, _, _, _, _, _, _, _, _, _, _, _, _, _, _, _, .int .i64 ((goS l n ((i : Nat) : Int)).1), _, _, _, _, _, _, _, _, _, _, _, _, _, _, _, _, _, _, _, _, _, _, _, _, _], [D]⟩) rfl rfl rfl rfl ?_
          refine W.op (v := errV ((goS l n ((i : Nat) : Int)).2)) (fr1 := ⟨[_, _, _, _, _, _, _, _, _, _, _, _, _, _, _, _, _, _, _, _, _, _, _, _, _, _, _, _, _, _, _, _, _, _, _, _, _, _, _, _, _, _, _, _, _, _, _, _, _, _, _, _, _, _, _, _, _, _, _, _, _, _, _, _, errV ((goS l n ((i : Nat) : Int)).2), _, _, _, _, _, _, _, _, _, _, _, _, _, _, _, _, _, _, _, _, _, _, _, _], [D]⟩) rfl rfl rfl rfl ?_
          refine W.op (v := .int .i64 ((goS l n ((i : Nat) : Int)).1)) (fr1 := ⟨[_, _, _, _, _, _, _, _, _, _, _, _, _, _, .int .i64 ((goS l n ((i : Nat) : Int)).1), _, _, _, _, _, _, _, _, _, _, _, _, _, _, _, _, _, _, _, _, _, _, _, _, _, _, _, _, _, _, _, _, _, _, _, _, _, _, _, _, _, _, _, _, _, _, _, _, _, _, _, _, _, _, _, _, _, _, _, _, _, _, _, _, _, _, _, _, _, _, _, _, _, _], [D]⟩) rfl rfl rfl rfl ?_
          refine W.op (v := errV ((goS l n ((i : Nat) : Int)).2)) (fr1 := ⟨[_, _, _, _, _, _, _, _, _, _, _, _, _, _, _, errV ((goS l n ((i : Nat) : Int)).2), _, _, _, _, _, _, _, _, _, _, _, _, _, _, _, _, _, _, _, _, _, _, _, _, _, _, _, _, _, _, _, _, _, _, _, _, _, _, _, _, _, _, _, _, _, _, _, _, _, _, _, _, _, _, _, _, _, _, _, _, _, _, _, _, _, _, _, _, _, _, _, _, _], [D]⟩) rfl rfl rfl rfl ?_
          refine EndsOps.nil ?_
          refine Ends.seq ?_
          refine Ends.seq ?_
          refine Ends.region ?_
          refine W.op (v := errV ((goS l n ((i : Nat) : Int)).2)) (fr1 := ⟨[_, _, _, _, _, _, _, _, _, _, _, _, _, _, _, _, _, _, _, _, _, _, _, _, _, _, _, _, _, _, _, _, _, _, _, _, _, _, _, _, _, _, _, _, _, _, _, _, _, _, _, _, _, _, _, _, _, _, _, _, _, _, _, _, _, errV ((goS l n ((i : Nat) : Int)).2), _, _, _, _, _, _, _, _, _, _, _, _, _, _, _, _, _, _, _, _, _, _, _], [D]⟩) rfl rfl rfl rfl ?_
          by_cases h240 : (goS l n ((i : Nat) : Int)).2 = 0
          · skip
            refine W.op (v := .bool false) (fr1 := ⟨[_, _, _, _, _, _, _, _, _, _, _, _, _, _, _, _, _, _, _, _, _, _, _, _, _, _, _, _, _, _, _, _, _, _, _, _, _, _, _, _, _, _, _, _, _, _, _, _, _, _, _, _, _, _, _, _, _, _, _, _, _, _, _, _, _, _, .bool false, _, _, _, _, _, _, _, _, _, _, _, _, _, _, _, _, _, _, _, _, _, _], [D]⟩) rfl (p_bin (errneqT h240)) rfl rfl ?_
            refine EndsOps.nil ?_
            refine Ends.condF rfl ?_
            refine Ends.skip ?_
            refine Ends.seq ?_
            refine Ends.region ?_
            refine W.op (v := .int .i64 ((m : Nat) : Int)) (fr1 := ⟨[_, _, _, _, _, _, _, _, _, _, _, _, _, _, _, _, _, _, _, _, _, _, _, _, _, _, _, _, _, _, _, _, _, _, _, _, _, _, _, _, _, _, _, _, _, _, _, _, _, _, _, _, _, _, _, _, _, _, _, _, _, _, _, _, _, _, _, .int .i64 ((m : Nat) : Int), _, _, _, _, _, _, _, _, _, _, _, _, _, _, _, _, _, _, _, _, _], [D]⟩) rfl rfl rfl rfl ?_
            refine W.op (v := .int .i64 ((m + 1 : Nat) : Int)) (fr1 := ⟨[_, _, _, _, _, _, _, _, _, _, _, _, _, _, _, _, _, _, _, _, _, _, _, _, _, _, _, _, _, _, _, _, _, _, _, _, _, _, _, _, _, _, _, _, _, _, _, _, _, _, _, _, _, _, _, _, _, _, _, _, _, _, _, _, _, _, _, _, .int .i64 ((m + 1 : Nat) : Int), _, _, _, _, _, _, _, _, _, _, _, _, _, _, _, _, _, _, _, _], [D]⟩) rfl (p_bin (addI (by omega) (by omega) (by omega))) rfl rfl ?_
            refine W.op (v := .int .i64 ((m + 1 : Nat) : Int)) (fr1 := ⟨[_, _, _, _, _, _, _, _, _, _, _, _, .int .i64 ((m + 1 : Nat) : Int), _, _, _, _, _, _, _, _, _, _, _, _, _, _, _, _, _, _, _, _, _, _, _, _, _, _, _, _, _, _, _, _, _, _, _, _, _, _, _, _, _, _, _, _, _, _, _, _, _, _, _, _, _, _, _, _, _, _, _, _, _, _, _, _, _, _, _, _, _, _, _, _, _, _, _, _], [D]⟩) rfl rfl rfl rfl ?_
            refine EndsOps.nil ?_
            refine Ends.seq ?_
            refine Ends.region ?_
            refine W.op (v := .slice al l.length cl) (fr1 := ⟨[_, _, _, _, _, _, _, _, _, _, _, _, _, _, _, _, _, _, _, _, _, _, _, _, _, _, _, _, _, _, _, _, _, _, _, _, _, _, _, _, _, _, _, _, _, _, _, _, _, _, _, _, _, _, _, _, _, _, _, _, _, _, _, _, _, _, _, _, _, _, .slice al l.length cl, _, _, _, _, _, _, _, _, _, _, _, _, _, _, _, _, _, _], [D]⟩) rfl rfl rfl rfl ?_
            refine W.op (v := .int .i64 n) (fr1 := ⟨[_, _, _, _, _, _, _, _, _, _, _, _, _, _, _, _, _, _, _, _, _, _, _, _, _, _, _, _, _, _, _, _, _, _, _, _, _, _, _, _, _, _, _, _, _, _, _, _, _, _, _, _, _, _, _, _, _, _, _, _, _, _, _, _, _, _, _, _, _, _, _, .int .i64 n, _, _, _, _, _, _, _, _, _, _, _, _, _, _, _, _, _], [D]⟩) rfl rfl rfl rfl ?_
            refine W.op (v := .int .i64 ((goS l n ((i : Nat) : Int)).1)) (fr1 := ⟨[_, _, _, _, _, _, _, _, _, _, _, _, _, _, _, _, _, _, _, _, _, _, _, _, _, _, _, _, _, _, _, _, _, _, _, _, _, _, _, _, _, _, _, _, _, _, _, _, _, _, _, _, _, _, _, _, _, _, _, _, _, _, _, _, _, _, _, _, _, _, _, _, .int .i64 ((goS l n ((i : Nat) : Int)).1), _, _, _, _, _, _, _, _, _, _, _, _, _, _, _, _], [D]⟩) rfl rfl rfl rfl ?_
            have eca := go_ca h129 (by omega) (by omega) h240
            refine W.call (ar := [.slice al l.length cl, .int .i64 n, .int .i64 ((goS l n ((i : Nat) : Int)).1)]) (X := .tuple ⟨[.int .i64 ((caS l n (goS l n ((i : Nat) : Int)).1).1), errV ((caS l n (goS l n ((i : Nat) : Int)).1).2)]⟩) (fr1 := ⟨[_, _, _, _, _, _, _, _, _, _, _, _, _, _, _, _, _, _, _, _, _, _, _, _, _, _, _, _, _, _, _, _, _, _, _, _, _, _, _, _, _, _, _, _, _, _, _, _, _, _, _, _, _, _, _, _, _, _, _, _, _, _, _, _, _, _, _, _, _, _, _, _, _, .tuple ⟨[.int .i64 ((caS l n (goS l n ((i : Nat) : Int)).1).1), errV ((caS l n (goS l n ((i : Nat) : Int)).1).2)]⟩, _, _, _, _, _, _, _, _, _, _, _, _, _, _, _], [D]⟩) hO234 rfl rfl rfl rfl (c18T _ _ _ _ _ _ _ _ n (goS l n ((i : Nat) : Int)).1 hB h129 _ (Hl.own hO234)) rfl ?_
            intro s241 hO242 hS243
            have ob244 := ob236.own hS243
            have r245 := r237.own hS243
            have r246 := r238.own hS243
            have r247 := r239.own hS243
            refine W.op (v := .tuple ⟨[.int .i64 ((caS l n (goS l n ((i : Nat) : Int)).1).1), errV ((caS l n (goS l n ((i : Nat) : Int)).1).2)]⟩) (fr1 := ⟨[_, _, _, _, _, _, _, _, _, _, _, _, _, _, _, _, _, _, _, _, _, _, _, _, _, _, _, _, _, _, _, _, _, _, _, _, _, _, _, _, _, _, _, _, _, _, _, _, _, _, _, _, _, _, _, _, _, _, _, _, _, _, _, _, _, _, _, _, _, .tuple ⟨[.int .i64 ((caS l n (goS l n ((i : Nat) : Int)).1).1), errV ((caS l n (goS l n ((i : Nat) : Int)).1).2)]⟩, _, _, _, _, _, _, _, _, _, _, _, _, _, _, _, _, _, _, _], [D]⟩) rfl rfl rfl rfl ?_
            refine W.op (v := .int .i64 ((caS l n (goS l n ((i : Nat) : Int)).1).1)) (fr1 := ⟨[_, _, _, _, _, _, _, _, _, _, _, _, _, _, _, _, _, _, _, _, _, _, _, _, _, _, _, _, _, _, _, _, _, _, _, _, _, _, _, _, _, _, _, _, _, _, _, _, _, _, _, _, _, _, _, _, _, _, _, _, _, _, _, _, _, _, _, _, _, _, _, _, _, _, .int .i64 ((caS l n (goS l n ((i : Nat) : Int)).1).1), _, _, _, _, _, _, _, _, _, _, _, _, _, _], [D]⟩) rfl rfl rfl rfl ?_
            refine W.op (v := errV ((caS l n (goS l n ((i : Nat) : Int)).1).2)) (fr1 := ⟨[_, _, _, _, _, _, _, _, _, _, _, _, _, _, _, _, _, _, _, _, _, _, _, _, _, _, _, _, _, _, _, _, _, _, _, _, _, _, _, _, _, _, _, _, _, _, _, _, _, _, _, _, _, _, _, _, _, _, _, _, _, _, _, _, _, _, _, _, _, _, _, _, _, _, _, errV ((caS l n (goS l n ((i : Nat) : Int)).1).2), _, _, _, _, _, _, _, _, _, _, _, _, _], [D]⟩) rfl rfl rfl rfl ?_
            refine W.op (v := .int .i64 ((caS l n (goS l n ((i : Nat) : Int)).1).1)) (fr1 := ⟨[_, _, _, _, _, _, _, _, _, _, _, _, _, _, _, _, .int .i64 ((caS l n (goS l n ((i : Nat) : Int)).1).1), _, _, _, _, _, _, _, _, _, _, _, _, _, _, _, _, _, _, _, _, _, _, _, _, _, _, _, _, _, _, _, _, _, _, _, _, _, _, _, _, _, _, _, _, _, _, _, _, _, _, _, _, _, _, _, _, _, _, _, _, _, _, _, _, _, _, _, _, _, _, _, _], [D]⟩) rfl rfl rfl rfl ?_
            refine W.op (v := errV ((caS l n (goS l n ((i : Nat) : Int)).1).2)) (fr1 := ⟨[_, _, _, _, _, _, _, _, _, _, _, _, _, _, _, _, _, errV ((caS l n (goS l n ((i : Nat) : Int)).1).2), _, _, _, _, _, _, _, _, _, _, _, _, _, _, _, _, _, _, _, _, _, _, _, _, _, _, _, _, _, _, _, _, _, _, _, _, _, _, _, _, _, _, _, _, _, _, _, _, _, _, _, _, _, _, _, _, _, _, _, _, _, _, _, _, _, _, _, _, _, _, _], [D]⟩) rfl rfl rfl rfl ?_
            refine EndsOps.nil ?_
            refine Ends.seq ?_
            refine Ends.region ?_
            refine W.op (v := errV ((caS l n (goS l n ((i : Nat) : Int)).1).2)) (fr1 := ⟨[_, _, _, _, _, _, _, _, _, _, _, _, _, _, _, _, _, _, _, _, _, _, _, _, _, _, _, _, _, _, _, _, _, _, _, _, _, _, _, _, _, _, _, _, _, _, _, _, _, _, _, _, _, _, _, _, _, _, _, _, _, _, _, _, _, _, _, _, _, _, _, _, _, _, _, _, errV ((caS l n (goS l n ((i : Nat) : Int)).1).2), _, _, _, _, _, _, _, _, _, _, _, _], [D]⟩) rfl rfl rfl rfl ?_
            refine W.op (v := .bool false) (fr1 := ⟨[_, _, _, _, _, _, _, _, _, _, _, _, _, _, _, _, _, _, _, _, _, _, _, _, _, _, _, _, _, _, _, _, _, _, _, _, _, _, _, _, _, _, _, _, _, _, _, _, _, _, _, _, _, _, _, _, _, _, _, _, _, _, _, _, _, _, _, _, _, _, _, _, _, _, _, _, _, .bool false, _, _, _, _, _, _, _, _, _, _, _], [D]⟩) rfl (p_bin (errneqT (by rw [eca]))) rfl rfl ?_
            refine W.op (v := .bool false) (fr1 := ⟨[_, _, _, _, _, _, _, _, _, _, _, _, _, _, _, _, _, _, _, _, _, _, _, _, _, _, _, _, _, _, _, _, _, _, _, _, _, _, _, _, _, _, _, _, _, _, _, _, _, _, _, _, _, _, _, _, _, _, _, _, _, _, _, _, _, _, _, _, _, _, _, _, _, _, _, _, _, _, .bool false, _, _, _, _, _, _, _, _, _, _], [D]⟩) rfl rfl rfl rfl ?_
            refine W.op (v := .int .i64 ((caS l n (goS l n ((i : Nat) : Int)).1).1)) (fr1 := ⟨[_, _, _, _, _, _, _, _, _, _, _, _, _, _, _, _, _, _, _, _, _, _, _, _, _, _, _, _, _, _, _, _, _, _, _, _, _, _, _, _, _, _, _, _, _, _, _, _, _, _, _, _, _, _, _, _, _, _, _, _, _, _, _, _, _, _, _, _, _, _, _, _, _, _, _, _, _, _, _, .int .i64 ((caS l n (goS l n ((i : Nat) : Int)).1).1), _, _, _, _, _, _, _, _, _], [D]⟩) rfl rfl rfl rfl ?_
            refine W.op (v := .int .i64 ((i : Nat) : Int)) (fr1 := ⟨[_, _, _, _, _, _, _, _, _, _, _, _, _, _, _, _, _, _, _, _, _, _, _, _, _, _, _, _, _, _, _, _, _, _, _, _, _, _, _, _, _, _, _, _, _, _, _, _, _, _, _, _, _, _, _, _, _, _, _, _, _, _, _, _, _, _, _, _, _, _, _, _, _, _, _, _, _, _, _, _, .int .i64 ((i : Nat) : Int), _, _, _, _, _, _, _, _], [D]⟩) rfl rfl rfl rfl ?_
            refine W.op (v := .bool false) (fr1 := ⟨[_, _, _, _, _, _, _, _, _, _, _, _, _, _, _, _, _, _, _, _, _, _, _, _, _, _, _, _, _, _, _, _, _, _, _, _, _, _, _, _, _, _, _, _, _, _, _, _, _, _, _, _, _, _, _, _, _, _, _, _, _, _, _, _, _, _, _, _, _, _, _, _, _, _, _, _, _, _, _, _, _, .bool false, _, _, _, _, _, _, _], [D]⟩) rfl (p_bin (neF (by rw [eca]))) rfl rfl ?_
            refine W.op (v := .bool false) (fr1 := ⟨[_, _, _, _, _, _, _, _, _, _, _, _, _, _, _, _, _, _, _, _, _, _, _, _, _, _, _, _, _, _, _, _, _, _, _, _, _, _, _, _, _, _, _, _, _, _, _, _, _, _, _, _, _, _, _, _, _, _, _, _, _, _, _, _, _, _, _, _, _, _, _, _, _, _, _, _, _, _, _, _, _, _, .bool false, _, _, _, _, _, _], [D]⟩) rfl rfl rfl rfl ?_
            refine EndsOps.nil ?_
            refine Ends.condF rfl ?_
            refine Ends.skip ?_
            refine Ends.region ?_
            refine W.op (v := .int .i64 ((i + 1 : Nat) : Int)) (fr1 := ⟨[_, _, _, _, _, _, _, _, _, _, _, _, _, _, _, _, _, _, _, _, _, _, _, _, _, _, _, _, _, _, _, _, _, _, _, _, _, _, _, _, _, _, _, _, _, _, _, _, _, _, _, _, _, _, _, _, _, _, _, _, _, _, _, _, _, _, _, _, _, _, _, _, _, _, _, _, _, _, _, _, _, _, _, .int .i64 ((i + 1 : Nat) : Int), _, _, _, _, _], [D]⟩) rfl (p_bin (addI (by omega) (by omega) (by omega))) rfl rfl ?_
            refine W.op (v := .int .i64 ((i + 1 : Nat) : Int)) (fr1 := ⟨[_, _, _, _, _, _, _, _, _, _, _, _, _, _, _, _, _, _, _, _, _, _, _, _, _, _, _, _, _, _, _, _, _, _, _, _, _, _, _, _, _, _, _, _, _, _, _, _, _, _, _, _, _, _, _, .int .i64 ((i + 1 : Nat) : Int), _, _, _, _, _, _, _, _, _, _, _, _, _, _, _, _, _, _, _, _, _, _, _, _, _, _, _, _, _, _, _, _, _], [D]⟩) rfl rfl rfl rfl ?_
            refine EndsOps.nil ?_
            exact ⟨_, (by omega), i + 1, m + 1, _, _, _, _, _, _, _, _, _, _, _, _, _, _, _, _, _, _, _, _, _, _, _, _, _, _, _, _, _, _, _, _, _, rfl, hO242, rfl, (by rw [cnt_step h129 hN5 hT5, if_pos h240]; omega), by omega, by omega, r245, r246, r247, ob244⟩
          · skip
            refine W.op (v := .bool true) (fr1 := ⟨[_, _, _, _, _, _, _, _, _, _, _, _, _, _, _, _, _, _, _, _, _, _, _, _, _, _, _, _, _, _, _, _, _, _, _, _, _, _, _, _, _, _, _, _, _, _, _, _, _, _, _, _, _, _, _, _, _, _, _, _, _, _, _, _, _, _, .bool true, _, _, _, _, _, _, _, _, _, _, _, _, _, _, _, _, _, _, _, _, _, _], [D]⟩) rfl (p_bin (errneqF h240)) rfl rfl ?_
            refine EndsOps.nil ?_
            refine Ends.condT rfl ?_
            refine Ends.exit ?_
            refine W.outT rfl ?_
            refine Ends.region ?_
            refine W.op (v := .int .i64 ((i + 1 : Nat) : Int)) (fr1 := ⟨[_, _, _, _, _, _, _, _, _, _, _, _, _, _, _, _, _, _, _, _, _, _, _, _, _, _, _, _, _, _, _, _, _, _, _, _, _, _, _, _, _, _, _, _, _, _, _, _, _, _, _, _, _, _, _, _, _, _, _, _, _, _, _, _, _, _, _, _, _, _, _, _, _, _, _, _, _, _, _, _, _, _, _, .int .i64 ((i + 1 : Nat) : Int), _, _, _, _, _], [D]⟩) rfl (p_bin (addI (by omega) (by omega) (by omega))) rfl rfl ?_
            refine W.op (v := .int .i64 ((i + 1 : Nat) : Int)) (fr1 := ⟨[_, _, _, _, _, _, _, _, _, _, _, _, _, _, _, _, _, _, _, _, _, _, _, _, _, _, _, _, _, _, _, _, _, _, _, _, _, _, _, _, _, _, _, _, _, _, _, _, _, _, _, _, _, _, _, .int .i64 ((i + 1 : Nat) : Int), _, _, _, _, _, _, _, _, _, _, _, _, _, _, _, _, _, _, _, _, _, _, _, _, _, _, _, _, _, _, _, _, _], [D]⟩) rfl rfl rfl rfl ?_
            refine EndsOps.nil ?_
            exact ⟨_, (by omega), i + 1, m, _, _, _, _, _, _, _, _, _, _, _, _, _, _, _, _, _, _, _, _, _, _, _, _, _, _, _, _, _, _, _, _, _, rfl, hO234, rfl, (by rw [cnt_step h129 hN5 hT5, if_neg h240]; omega), by omega, by omega, r237, r238, r239, ob236⟩
        · skip
          refine W.op (v := .bool false) (fr1 := ⟨[_, _, _, _, _, _, _, _, _, _, _, _, _, _, _, _, _, _, _, _, _, _, _, _, _, _, _, _, _, _, _, _, _, _, _, _, _, _, _, _, _, _, _, _, _, _, _, _, _, _, _, _, _, _, _, _, .bool false, _, _, _, _, _, _, _, _, _, _, _, _, _, _, _, _, _, _, _, _, _, _, _, _, _, _, _, _, _, _, _, _], [D]⟩) rfl (p_bin (ltF h232)) rfl rfl ?_
          refine EndsOps.nil ?_
          refine Ends.seq ?_
          refine Ends.condF rfl ?_
          refine Ends.exit ?_
          refine W.outT rfl ?_
          refine Ends.seq ?_
          refine Ends.region ?_
          refine W.op (v := .int .i64 ((cnt : Nat) : Int)) (fr1 := ⟨[_, _, _, _, _, _, _, _, _, _, _, _, _, _, _, _, _, _, _, _, _, _, _, _, _, _, _, _, _, _, _, _, _, _, _, _, _, _, _, _, _, _, _, _, _, _, _, _, _, _, _, _, _, _, _, _, _, _, _, _, _, _, _, _, _, _, _, _, _, _, _, _, _, _, _, _, _, _, _, _, _, _, _, _, .int .i64 ((cnt : Nat) : Int), _, _, _, _], [D]⟩) rfl (p_load1 qN46 rfl rfl rfl rfl) rfl rfl ?_
          refine W.op (v := .int .i64 ((z : Nat) : Int)) (fr1 := ⟨[_, _, _, _, _, _, _, _, _, _, _, _, _, _, _, _, _, _, _, _, _, _, _, _, _, _, _, _, _, _, _, _, _, _, _, _, _, _, _, _, _, _, _, _, _, _, _, _, _, _, _, _, _, _, _, _, _, _, _, _, _, _, _, _, _, _, _, _, _, _, _, _, _, _, _, _, _, _, _, _, _, _, _, _, _, .int .i64 ((z : Nat) : Int), _, _, _], [D]⟩) rfl (p_load1 qN1 rfl rfl rfl rfl) rfl rfl ?_
          refine W.op (v := .int .i64 ((m : Nat) : Int)) (fr1 := ⟨[_, _, _, _, _, _, _, _, _, _, _, _, _, _, _, _, _, _, _, _, _, _, _, _, _, _, _, _, _, _, _, _, _, _, _, _, _, _, _, _, _, _, _, _, _, _, _, _, _, _, _, _, _, _, _, _, _, _, _, _, _, _, _, _, _, _, _, _, _, _, _, _, _, _, _, _, _, _, _, _, _, _, _, _, _, _, .int .i64 ((m : Nat) : Int), _, _], [D]⟩) rfl rfl rfl rfl ?_
          refine W.op (v := .int .i64 (if ((m : Nat) : Int) < ((z : Nat) : Int) then ((m : Nat) : Int) else ((z : Nat) : Int))) (fr1 := ⟨[_, _, _, _, _, _, _, _, _, _, _, _, _, _, _, _, _, _, _, _, _, _, _, _, _, _, _, _, _, _, _, _, _, _, _, _, _, _, _, _, _, _, _, _, _, _, _, _, _, _, _, _, _, _, _, _, _, _, _, _, _, _, _, _, _, _, _, _, _, _, _, _, _, _, _, _, _, _, _, _, _, _, _, _, _, _, _, .int .i64 (if ((m : Nat) : Int) < ((z : Nat) : Int) then ((m : Nat) : Int) else ((z : Nat) : Int)), _], [D]⟩) rfl rfl rfl rfl ?_
          refine W.op (v := .bool true) (fr1 := ⟨[_, _, _, _, _, _, _, _, _, _, _, _, _, _, _, _, _, _, _, _, _, _, _, _, _, _, _, _, _, _, _, _, _, _, _, _, _, _, _, _, _, _, _, _, _, _, _, _, _, _, _, _, _, _, _, _, _, _, _, _, _, _, _, _, _, _, _, _, _, _, _, _, _, _, _, _, _, _, _, _, _, _, _, _, _, _, _, _, .bool true], [D]⟩) rfl (p_bin (eqT (by rw [hcnt, show m = (keptS l n).length from hm.trans (cnt_end h129 (by omega))]; split <;> split <;> omega))) rfl rfl ?_
          refine W.store2 (cs := [.bool true]) (vs' := [.bool true]) (fr1 := ⟨[_, _, _, _, _, _, _, _, _, _, _, _, _, _, _, _, _, _, _, _, _, _, _, _, _, _, _, _, _, _, _, _, _, _, _, _, _, _, _, _, _, _, _, _, _, _, _, _, _, _, _, _, _, _, _, _, _, _, _, _, _, _, _, _, _, _, _, _, _, _, _, _, _, _, _, _, _, _, _, _, _, _, _, _, _, _, _, _, _], [D]⟩) hO230 qN8 hB14 rfl rfl rfl rfl (by kernel_rfl) (by simp) (by simp [END, oneCell]) rfl rfl ?_
          intro s248 hO249 hn250 hu251 r252 hX253
          have ob254 := obD.upd hn250 hu251 ⟨_, ⟨_, _, _, rfl⟩, qN8.get⟩
          have r255 := qN1.upd hn250 hu251 (qN1.ne qN8 (by decide))
          have r256 := qN46.upd hn250 hu251 (qN46.ne qN8 (by decide))
          refine EndsOps.nil ?_
          refine Ends.ret ?_
          exact ⟨rfl, .inr ⟨_, rfl, ob254.get⟩, N8, _, _, _, _, rfl, r252.get, rfl, fun _ => rfl⟩
      · skip
        obtain ⟨cnt, hcnt, i7⟩ : ∃ cnt : Nat, (cnt = if (keptS l n).length < z then (keptS l n).length else z) ∧ s2.t.get N46 = some (.cells [.int .i64 ((cnt : Nat) : Int)] 3 0) := ⟨_, (if_neg (by omega)).symm, i7⟩
        have r257 : Row s2.t s2.next N1 _ _ _ := ⟨i5, Nat.lt_of_lt_of_le r122.lt hn2⟩
        have r258 : Row s2.t s2.next N8 _ _ _ := ⟨i6, Nat.lt_of_lt_of_le r123.lt hn2⟩
        have r259 : Row s2.t s2.next N46 _ _ _ := ⟨i7, Nat.lt_of_lt_of_le r124.lt hn2⟩
        refine ⟨rl, iL, by rw [hst1]; nofun, ?_⟩
        generalize hs265 : Ev.setL s2 L _ = s264
        obtain ⟨g260, g261, g262, g263⟩ := setL_facts hs265
        have hO266 := Own.setL hO2 hsL (by omega) g260 g261 g263
        have r267 := r257.setL g260 g263 ⟨_, iL⟩
        have r268 := r258.setL g260 g263 ⟨_, iL⟩
        have r269 := r259.setL g260 g263 ⟨_, iL⟩
        rw [hst2]
        refine W.outT rfl ?_
        have ob270 : Ob s264.t s264.next D (.deferred (some [])) := ⟨(g263 D (by omega)).trans iD, by omega⟩
        refine Ends.seq ?_
        refine Ends.seq ?_
        refine Ends.region ?_
        refine W.op (v := .slice al l.length cl) (fr1 := ⟨[_, _, _, _, _, _, _, _, _, _, _, _, _, _, _, _, _, _, _, _, _, _, _, _, _, _, _, _, _, _, _, _, _, _, _, _, _, _, _, _, _, _, _, _, _, _, _, _, .slice al l.length cl, _, _, _, _, _, _, _, _, _, _, _, _, _, _, _, _, _, _, _, _, _, _, _, _, _, _, _, _, _, _, _, _, _, _, _, _, _, _, _, _], [D]⟩) rfl rfl rfl rfl ?_
        refine W.op (v := .int .i64 n) (fr1 := ⟨[_, _, _, _, _, _, _, _, _, _, _, _, _, _, _, _, _, _, _, _, _, _, _, _, _, _, _, _, _, _, _, _, _, _, _, _, _, _, _, _, _, _, _, _, _, _, _, _, _, .int .i64 n, _, _, _, _, _, _, _, _, _, _, _, _, _, _, _, _, _, _, _, _, _, _, _, _, _, _, _, _, _, _, _, _, _, _, _, _, _, _, _], [D]⟩) rfl rfl rfl rfl ?_
        refine W.call (ar := [.slice al l.length cl, .int .i64 n]) (X := .bool true) (fr1 := ⟨[_, _, _, _, _, _, _, _, _, _, _, _, _, _, _, _, _, _, _, _, _, _, _, _, _, _, _, _, _, _, _, _, _, _, _, _, _, _, _, _, _, _, _, _, _, _, _, _, _, _, .bool true, _, _, _, _, _, _, _, _, _, _, _, _, _, _, _, _, _, _, _, _, _, _, _, _, _, _, _, _, _, _, _, _, _, _, _, _, _, _], [D]⟩) hO266 rfl rfl rfl rfl ((c23 _ _ _ _ _ _ _ _ n _ (Hl.own hO266)).mono fun v _ _ h => h.trans (congrArg Value.bool (decide_eq_true h129))) rfl ?_
        intro s271 hO272 hS273
        have ob274 := ob270.own hS273
        have r275 := r267.own hS273
        have r276 := r268.own hS273
        have r277 := r269.own hS273
        refine W.op (v := .bool false) (fr1 := ⟨[_, _, _, _, _, _, _, _, _, _, _, _, _, _, _, _, _, _, _, _, _, _, _, _, _, _, _, _, _, _, _, _, _, _, _, _, _, _, _, _, _, _, _, _, _, _, _, _, _, _, _, .bool false, _, _, _, _, _, _, _, _, _, _, _, _, _, _, _, _, _, _, _, _, _, _, _, _, _, _, _, _, _, _, _, _, _, _, _, _, _], [D]⟩) rfl rfl rfl rfl ?_
        refine EndsOps.nil ?_
        refine Ends.condF rfl ?_
        refine Ends.skip ?_
        refine Ends.seq ?_
        refine Ends.region ?_
        refine W.op (v := .int .i64 0) (fr1 := ⟨[_, _, _, _, _, _, _, _, _, _, _, _, .int .i64 0, _, _, _, _, _, _, _, _, _, _, _, _, _, _, _, _, _, _, _, _, _, _, _, _, _, _, _, _, _, _, _, _, _, _, _, _, _, _, _, _, _, _, _, _, _, _, _, _, _, _, _, _, _, _, _, _, _, _, _, _, _, _, _, _, _, _, _, _, _, _, _, _, _, _, _, _], [D]⟩) rfl rfl rfl rfl ?_
        refine EndsOps.nil ?_
        refine Ends.seq ?_
        refine Ends.seq ?_
        refine Ends.region ?_
        refine W.op (v := .int .i64 n) (fr1 := ⟨[_, _, _, _, _, _, _, _, _, _, _, _, _, _, _, _, _, _, _, _, _, _, _, _, _, _, _, _, _, _, _, _, _, _, _, _, _, _, _, _, _, _, _, _, _, _, _, _, _, _, _, _, _, _, .int .i64 n, _, _, _, _, _, _, _, _, _, _, _, _, _, _, _, _, _, _, _, _, _, _, _, _, _, _, _, _, _, _, _, _, _, _], [D]⟩) rfl rfl rfl rfl ?_
        refine W.op (v := .int .i64 0) (fr1 := ⟨[_, _, _, _, _, _, _, _, _, _, _, _, _, _, _, _, _, _, _, _, _, _, _, _, _, _, _, _, _, _, _, _, _, _, _, _, _, _, _, _, _, _, _, _, _, _, _, _, _, _, _, _, _, _, _, .int .i64 0, _, _, _, _, _, _, _, _, _, _, _, _, _, _, _, _, _, _, _, _, _, _, _, _, _, _, _, _, _, _, _, _, _], [D]⟩) rfl rfl rfl rfl ?_
        refine EndsOps.nil ?_
        refine W.block ?_
        refine Ends.loopInv (fun d fr s1 => ∃ (i : Nat) (m : Nat) (j13 j14 j15 j16 j17 j56 j57 j58 j59 j60 j61 j62 j63 j64 j65 j66 j67 j68 j69 j70 j71 j72 j73 j74 j75 j76 j77 j78 j79 j80 j81 j82 j83 : Value), fr = ⟨[.slice al l.length cl, .int .i64 n, .int .i64 q, undef, undef, .pointer (some ⟨N1, 0, none⟩), .pointer (some ⟨N8, 0, none⟩), .pointer (some ⟨N46, 0, none⟩), .pointer (some ⟨N55, 0, none⟩), .pointer (some ⟨N65, 0, none⟩), undef, undef, .int .i64 ((m : Nat) : Int), j13, j14, j15, j16, j17, .bool true, .bool false, .int .i64 n, .slice al l.length cl, .bool false, .int .i64 q, .int .u64 (IntKind.u64.wrap q), .int .u64 ((IntKind.u64.wrap q).tmod 40), .int .i64 (W ((IntKind.u64.wrap q).tmod 40)), .int .i64 ((z : Nat) : Int), .slice al l.length cl, .int .i64 n, .func (.func 68) ⟨[]⟩ ⟨[.pointer (some ⟨N116, 0, none⟩), .pointer (some ⟨N117, 0, none⟩)]⟩, undef, undef, undef, undef, undef, undef, undef, undef, undef, undef, undef, undef, undef, undef, undef, undef, undef, .slice al l.length cl, .int .i64 n, .bool true, .bool false, undef, undef, .int .i64 n, .int .i64 ((i : Nat) : Int), j56, j57, j58, j59, j60, j61, j62, j63, j64, j65, j66, j67, j68, j69, j70, j71, j72, j73, j74, j75, j76, j77, j78, j79, j80, j81, j82, j83, undef, undef, undef, undef, undef], [D]⟩ ∧ Own s s1 ∧ d = (n - ((i : Nat) : Int)).toNat ∧ (m = cntK (keptS l n) ((i : Nat) : Int)) ∧ (m ≤ i) ∧ (((i : Nat) : Int) ≤ n) ∧ (Row s1.t s1.next N1 [.int .i64 ((z : Nat) : Int)] 3 0) ∧ (Row s1.t s1.next N8 [.bool false] 4 0) ∧ (Row s1.t s1.next N46 [.int .i64 ((cnt : Nat) : Int)] 3 0) ∧ (Ob s1.t s1.next D (.deferred (some [])))) ?_ _ _ _ ⟨0, 0, _, _, _, _, _, _, _, _, _, _, _, _, _, _, _, _, _, _, _, _, _, _, _, _, _, _, _, _, _, _, _, _, _, rfl, hO272, rfl, (cnt_zero h129).symm, Nat.le_refl _, (by have := h129.1; omega), r275, r276, r277, ob274⟩
        rintro d _ s278 ⟨i, m, j13, j14, j15, j16, j17, j56, j57, j58, j59, j60, j61, j62, j63, j64, j65, j66, j67, j68, j69, j70, j71, j72, j73, j74, j75, j76, j77, j78, j79, j80, j81, j82, j83, rfl, hO279, hd280, hm, hmi, hin, qN1, qN8, qN46, obD⟩
        refine Ends.seq ?_
        refine Ends.region ?_
        by_cases h281 : ((i : Nat) : Int) < n
        · skip
          refine W.op (v := .bool true) (fr1 := ⟨[_, _, _, _, _, _, _, _, _, _, _, _, _, _, _, _, _, _, _, _, _, _, _, _, _, _, _, _, _, _, _, _, _, _, _, _, _, _, _, _, _, _, _, _, _, _, _, _, _, _, _, _, _, _, _, _, .bool true, _, _, _, _, _, _, _, _, _, _, _, _, _, _, _, _, _, _, _, _, _, _, _, _, _, _, _, _, _, _, _, _], [D]⟩) rfl (p_bin (ltT h281)) rfl rfl ?_
          refine EndsOps.nil ?_
          refine Ends.seq ?_
          refine Ends.condT rfl ?_
          refine Ends.skip ?_
          refine Ends.seq ?_
          refine W.block ?_
          refine Ends.seq ?_
          refine Ends.region ?_
          refine W.op (v := .int .i64 ((i : Nat) : Int)) (fr1 := ⟨[_, _, _, _, _, _, _, _, _, _, _, _, _, _, _, _, _, _, _, _, _, _, _, _, _, _, _, _, _, _, _, _, _, _, _, _, _, _, _, _, _, _, _, _, _, _, _, _, _, _, _, _, _, _, _, _, _, .int .i64 ((i : Nat) : Int), _, _, _, _, _, _, _, _, _, _, _, _, _, _, _, _, _, _, _, _, _, _, _, _, _, _, _, _, _, _, _], [D]⟩) rfl rfl rfl rfl ?_
          refine W.op (v := .int .i64 ((i : Nat) : Int)) (fr1 := ⟨[_, _, _, _, _, _, _, _, _, _, _, _, _, .int .i64 ((i : Nat) : Int), _, _, _, _, _, _, _, _, _, _, _, _, _, _, _, _, _, _, _, _, _, _, _, _, _, _, _, _, _, _, _, _, _, _, _, _, _, _, _, _, _, _, _, _, _, _, _, _, _, _, _, _, _, _, _, _, _, _, _, _, _, _, _, _, _, _, _, _, _, _, _, _, _, _, _], [D]⟩) rfl rfl rfl rfl ?_
          refine EndsOps.nil ?_
          refine Ends.seq ?_
          refine Ends.region ?_
          refine W.op (v := .slice al l.length cl) (fr1 := ⟨[_, _, _, _, _, _, _, _, _, _, _, _, _, _, _, _, _, _, _, _, _, _, _, _, _, _, _, _, _, _, _, _, _, _, _, _, _, _, _, _, _, _, _, _, _, _, _, _, _, _, _, _, _, _, _, _, _, _, _, .slice al l.length cl, _, _, _, _, _, _, _, _, _, _, _, _, _, _, _, _, _, _, _, _, _, _, _, _, _, _, _, _, _], [D]⟩) rfl rfl rfl rfl ?_
          refine W.op (v := .int .i64 n) (fr1 := ⟨[_, _, _, _, _, _, _, _, _, _, _, _, _, _, _, _, _, _, _, _, _, _, _, _, _, _, _, _, _, _, _, _, _, _, _, _, _, _, _, _, _, _, _, _, _, _, _, _, _, _, _, _, _, _, _, _, _, _, _, _, .int .i64 n, _, _, _, _, _, _, _, _, _, _, _, _, _, _, _, _, _, _, _, _, _, _, _, _, _, _, _, _], [D]⟩) rfl rfl rfl rfl ?_
          refine W.op (v := .int .i64 ((i : Nat) : Int)) (fr1 := ⟨[_, _, _, _, _, _, _, _, _, _, _, _, _, _, _, _, _, _, _, _, _, _, _, _, _, _, _, _, _, _, _, _, _, _, _, _, _, _, _, _, _, _, _, _, _, _, _, _, _, _, _, _, _, _, _, _, _, _, _, _, _, .int .i64 ((i : Nat) : Int), _, _, _, _, _, _, _, _, _, _, _, _, _, _, _, _, _, _, _, _, _, _, _, _, _, _, _], [D]⟩) rfl rfl rfl rfl ?_
          refine W.call (ar := [.slice al l.length cl, .int .i64 n, .int .i64 ((i : Nat) : Int)]) (X := .tuple ⟨[.int .i64 ((goS l n ((i : Nat) : Int)).1), errV ((goS l n ((i : Nat) : Int)).2)]⟩) (fr1 := ⟨[_, _, _, _, _, _, _, _, _, _, _, _, _, _, _, _, _, _, _, _, _, _, _, _, _, _, _, _, _, _, _, _, _, _, _, _, _, _, _, _, _, _, _, _, _, _, _, _, _, _, _, _, _, _, _, _, _, _, _, _, _, _, .tuple ⟨[.int .i64 ((goS l n ((i : Nat) : Int)).1), errV ((goS l n ((i : Nat) : Int)).2)]⟩, _, _, _, _, _, _, _, _, _, _, _, _, _, _, _, _, _, _, _, _, _, _, _, _, _, _], [D]⟩) hO279 rfl rfl rfl rfl (c17T _ _ _ _ _ _ _ _ n ((i : Nat) : Int) hB h129 _ (Hl.own hO279)) rfl ?_
          intro s282 hO283 hS284
          have ob285 := obD.own hS284
          have r286 := qN1.own hS284
          have r287 := qN8.own hS284
          have r288 := qN46.own hS284
          refine W.op (v := .tuple ⟨[.int .i64 ((goS l n ((i : Nat) : Int)).1), errV ((goS l n ((i : Nat) : Int)).2)]⟩) (fr1 := ⟨[_, _, _, _, _, _, _, _, _, _, _, _, _, _, _, _, _, _, _, _, _, _, _, _, _, _, _, _, _, _, _, _, _, _, _, _, _, _, _, _, _, _, _, _, _, _, _, _, _, _, _, _, _, _, _, _, _, _, .tuple ⟨[.int .i64 ((goS l n ((i : Nat) : Int)).1), errV ((goS l n ((i : Nat) : Int)).2)]⟩, _, _, _, _, _, _, _, _, _, _, _, _, _, _, _, _, _, _, _, _, _, _, _, _, _, _, _, _, _, _], [D]⟩) rfl rfl rfl rfl ?_
          refine W.op (v := .int .i64 ((goS l n ((i : Nat) : Int)).1)) (fr1 := ⟨[_, _, _, _, _, _, _, _, _, _, _, _, _, _, _, _, _, _, _, _, _, _, _, _, _, _, _, _, _, _, _, _, _, _, _, _, _, _, _, _, _, _, _, _, _, _, _, _, _, _, _, _, _, _, _, _, _, _, _, _, _, _, _, .int .i64 ((goS l n ((i : Nat) : Int)).1), _, _, _, _, _, _, _, _, _, _, _, _, _, _, _, _, _, _, _, _, _, _, _, _, _], [D]⟩) rfl rfl rfl rfl ?_
          refine W.op (v := errV ((goS l n ((i : Nat) : Int)).2)) (fr1 := ⟨[_, _, _, _, _, _, _, _, _, _, _, _, _, _, _, _, _, _, _, _, _, _, _, _, _, _, _, _, _, _, _, _, _, _, _, _, _, _, _, _, _, _, _, _, _, _, _, _, _, _, _, _, _, _, _, _, _, _, _, _, _, _, _, _, errV ((goS l n ((i : Nat) : Int)).2), _, _, _, _, _, _, _, _, _, _, _, _, _, _, _, _, _, _, _, _, _, _, _, _], [D]⟩) rfl rfl rfl rfl ?_
          refine W.op (v := .int .i64 ((goS l n ((i : Nat) : Int)).1)) (fr1 := ⟨[_, _, _, _, _, _, _, _, _, _, _, _, _, _, .int .i64 ((goS l n ((i : Nat) : Int)).1), _, _, _, _, _, _, _, _, _, _, _, _, _, _, _, _, _, _, _, _, _, _, _, _, _, _, _, _, _, _, _, _, _, _, _, _, _, _, _, _, _, _, _, _, _, _, _, _, _, _, _, _, _, _, _, _, _, _, _, _, _, _, _, _, _, _, _, _, _, _, _, _, _, _], [D]⟩) rfl rfl rfl rfl ?_
          refine W.op (v := errV ((goS l n ((i : Nat) : Int)).2)) (fr1 := ⟨[_, _, _, _, _, _, _, _, _, _, _, _, _, _, _, errV ((goS l n ((i : Nat) : Int)).2), _, _, _, _, _, _, _, _, _, _, _, _, _, _, _, _, _, _, _, _, _, _, _, _, _, _, _, _, _, _, _, _, _, _, _, _, _, _, _, _, _, _, _, _, _, _, _, _, _, _, _, _, _, _, _, _, _, _, _, _, _, _, _, _, _, _, _, _, _, _, _, _, _], [D]⟩) rfl rfl rfl rfl ?_
          refine EndsOps.nil ?_
          refine Ends.seq ?_
          refine Ends.seq ?_
          refine Ends.region ?_
          refine W.op (v := errV ((goS l n ((i : Nat) : Int)).2)) (fr1 := ⟨[_, _, _, _, _, _, _, _, _, _, _, _, _, _, _, _, _, _, _, _, _, _, _, _, _, _, _, _, _, _, _, _, _, _, _, _, _, _, _, _, _, _, _, _, _, _, _, _, _, _, _, _, _, _, _, _, _, _, _, _, _, _, _, _, _, errV ((goS l n ((i : Nat) : Int)).2), _, _, _, _, _, _, _, _, _, _, _, _, _, _, _, _, _, _, _, _, _, _, _], [D]⟩) rfl rfl rfl rfl ?_
          by_cases h289 : (goS l n ((i : Nat) : Int)).2 = 0
          · skip
            refine W.op (v := .bool false) (fr1 := ⟨[_, _, _, _, _, _, _, _, _, _, _, _, _, _, _, _, _, _, _, _, _, _, _, _, _, _, _, _, _, _, _, _, _, _, _, _, _, _, _, _, _, _, _, _, _, _, _, _, _, _, _, _, _, _, _, _, _, _, _, _, _, _, _, _, _, _, .bool false, _, _, _, _, _, _, _, _, _, _, _, _, _, _, _, _, _, _, _, _, _, _], [D]⟩) rfl (p_bin (errneqT h289)) rfl rfl ?_
            refine EndsOps.nil ?_
            refine Ends.condF rfl ?_
            refine Ends.skip ?_
            refine Ends.seq ?_
            refine Ends.region ?_
            refine W.op (v := .int .i64 ((m : Nat) : Int)) (fr1 := ⟨[_, _, _, _, _, _, _, _, _, _, _, _, _, _, _, _, _, _, _, _, _, _, _, _, _, _, _, _, _, _, _, _, _, _, _, _, _, _, _, _, _, _, _, _, _, _, _, _, _, _, _, _, _, _, _, _, _, _, _, _, _, _, _, _, _, _, _, .int .i64 ((m : Nat) : Int), _, _, _, _, _, _, _, _, _, _, _, _, _, _, _, _, _, _, _, _, _], [D]⟩) rfl rfl rfl rfl ?_
            refine W.op (v := .int .i64 ((m + 1 : Nat) : Int)) (fr1 := ⟨[_, _, _, _, _, _, _, _, _, _, _, _, _, _, _, _, _, _, _, _, _, _, _, _, _, _, _, _, _, _, _, _, _, _, _, _, _, _, _, _, _, _, _, _, _, _, _, _, _, _, _, _, _, _, _, _, _, _, _, _, _, _, _, _, _, _, _, _, .int .i64 ((m + 1 : Nat) : Int), _, _, _, _, _, _, _, _, _, _, _, _, _, _, _, _, _, _, _, _], [D]⟩) rfl (p_bin (addI (by omega) (by omega) (by omega))) rfl rfl ?_
            refine W.op (v := .int .i64 ((m + 1 : Nat) : Int)) (fr1 := ⟨[_, _, _, _, _, _, _, _, _, _, _, _, .int .i64 ((m + 1 : Nat) : Int), _, _, _, _, _, _, _, _, _, _, _, _, _, _, _, _, _, _, _, _, _, _, _, _, _, _, _, _, _, _, _, _, _, _, _, _, _, _, _, _, _, _, _, _, _, _, _, _, _, _, _, _, _, _, _, _, _, _, _, _, _, _, _, _, _, _, _, _, _, _, _, _, _, _, _, _], [D]⟩) rfl rfl rfl rfl ?_
            refine EndsOps.nil ?_
            refine Ends.seq ?_
            refine Ends.region ?_
            refine W.op (v := .slice al l.length cl) (fr1 := ⟨[_, _, _, _, _, _, _, _, _, _, _, _, _, _, _, _, _, _, _, _, _, _, _, _, _, _, _, _, _, _, _, _, _, _, _, _, _, _, _, _, _, _, _, _, _, _, _, _, _, _, _, _, _, _, _, _, _, _, _, _, _, _, _, _, _, _, _, _, _, _, .slice al l.length cl, _, _, _, _, _, _, _, _, _, _, _, _, _, _, _, _, _, _], [D]⟩) rfl rfl rfl rfl ?_
            refine W.op (v := .int .i64 n) (fr1 := ⟨[_, _, _, _, _, _, _, _, _, _, _, _, _, _, _, _, _, _, _, _, _, _, _, _, _, _, _, _, _, _, _, _, _, _, _, _, _, _, _, _, _, _, _, _, _, _, _, _, _, _, _, _, _, _, _, _, _, _, _, _, _, _, _, _, _, _, _, _, _, _, _, .int .i64 n, _, _, _, _, _, _, _, _, _, _, _, _, _, _, _, _, _], [D]⟩) rfl rfl rfl rfl ?_
            refine W.op (v := .int .i64 ((goS l n ((i : Nat) : Int)).1)) (fr1 := ⟨[_, _, _, _, _, _, _, _, _, _, _, _, _, _, _, _, _, _, _, _, _, _, _, _, _, _, _, _, _, _, _, _, _, _, _, _, _, _, _, _, _, _, _, _, _, _, _, _, _, _, _, _, _, _, _, _, _, _, _, _, _, _, _, _, _, _, _, _, _, _, _, _, .int .i64 ((goS l n ((i : Nat) : Int)).1), _, _, _, _, _, _, _, _, _, _, _, _, _, _, _, _], [D]⟩) rfl rfl rfl rfl ?_
            have eca := go_ca h129 (by omega) (by omega) h289
            refine W.call (ar := [.slice al l.length cl, .int .i64 n, .int .i64 ((goS l n ((i : Nat) : Int)).1)]) (X := .tuple ⟨[.int .i64 ((caS l n (goS l n ((i : Nat) : Int)).1).1), errV ((caS l n (goS l n ((i : Nat) : Int)).1).2)]⟩) (fr1 := ⟨[_, _, _, _, _, _, _, _, _, _, _, _, _, _, _, _, _, _, _, _, _, _, _, _, _, _, _, _, _, _, _, _, _, _, _, _, _, _, _, _, _, _, _, _, _, _, _, _, _, _, _, _, _, _, _, _, _, _, _, _, _, _, _, _, _, _, _, _, _, _, _, _, _, .tuple ⟨[.int .i64 ((caS l n (goS l n ((i : Nat) : Int)).1).1), errV ((caS l n (goS l n ((i : Nat) : Int)).1).2)]⟩, _, _, _, _, _, _, _, _, _, _, _, _, _, _, _], [D]⟩) hO283 rfl rfl rfl rfl (c18T _ _ _ _ _ _ _ _ n (goS l n ((i : Nat) : Int)).1 hB h129 _ (Hl.own hO283)) rfl ?_
            intro s290 hO291 hS292
            have ob293 := ob285.own hS292
            have r294 := r286.own hS292
            have r295 := r287.own hS292
            have r296 := r288.own hS292
            refine W.op (v := .tuple ⟨[.int .i64 ((caS l n (goS l n ((i : Nat) : Int)).1).1), errV ((caS l n (goS l n ((i : Nat) : Int)).1).2)]⟩) (fr1 := ⟨[_, _, _, _, _, _, _, _, _, _, _, _, _, _, _, _, _, _, _, _, _, _, _, _, _, _, _, _, _, _, _, _, _, _, _, _, _, _, _, _, _, _, _, _, _, _, _, _, _, _, _, _, _, _, _, _, _, _, _, _, _, _, _, _, _, _, _, _, _, .tuple ⟨[.int .i64 ((caS l n (goS l n ((i : Nat) : Int)).1).1), errV ((caS l n (goS l n ((i : Nat) : Int)).1).2)]⟩, _, _, _, _, _, _, _, _, _, _, _, _, _, _, _, _, _, _, _], [D]⟩) rfl rfl rfl rfl ?_
            refine W.op (v := .int .i64 ((caS l n (goS l n ((i : Nat) : Int)).1).1)) (fr1 := ⟨[_, _, _, _, _, _, _, _, _, _, _, _, _, _, _, _, _, _, _, _, _, _, _, _, _, _, _, _, _, _, _, _, _, _, _, _, _, _, _, _, _, _, _, _, _, _, _, _, _, _, _, _, _, _, _, _, _, _, _, _, _, _, _, _, _, _, _, _, _, _, _, _, _, _, .int .i64 ((caS l n (goS l n ((i : Nat) : Int)).1).1), _, _, _, _, _, _, _, _, _, _, _, _, _, _], [D]⟩) rfl rfl rfl rfl ?_
            refine W.op (v := errV ((caS l n (goS l n ((i : Nat) : Int)).1).2)) (fr1 := ⟨[_, _, _, _, _, _, _, _, _, _, _, _, _, _, _, _, _, _, _, _, _, _, _, _, _, _, _, _, _, _, _, _, _, _, _, _, _, _, _, _, _, _, _, _, _, _, _, _, _, _, _, _, _, _, _, _, _, _, _, _, _, _, _, _, _, _, _, _, _, _, _, _, _, _, _, errV ((caS l n (goS l n ((i : Nat) : Int)).1).2), _, _, _, _, _, _, _, _, _, _, _, _, _], [D]⟩) rfl rfl rfl rfl ?_
            refine W.op (v := .int .i64 ((caS l n (goS l n ((i : Nat) : Int)).1).1)) (fr1 := ⟨[_, _, _, _, _, _, _, _, _, _, _, _, _, _, _, _, .int .i64 ((caS l n (goS l n ((i : Nat) : Int)).1).1), _, _, _, _, _, _, _, _, _, _, _, _, _, _, _, _, _, _, _, _, _, _, _, _, _, _, _, _, _, _, _, _, _, _, _, _, _, _, _, _, _, _, _, _, _, _, _, _, _, _, _, _, _, _, _, _, _, _, _, _, _, _, _, _, _, _, _, _, _, _, _, _], [D]⟩) rfl rfl rfl rfl ?_
            refine W.op (v := errV ((caS l n (goS l n ((i : Nat) : Int)).1).2)) (fr1 := ⟨[_, _, _, _, _, _, _, _, _, _, _, _, _, _, _, _, _, errV ((caS l n (goS l n ((i : Nat) : Int)).1).2), _, _, _, _, _, _, _, _, _, _, _, _, _, _, _, _, _, _, _, _, _, _, _, _, _, _, _, _, _, _, _, _, _, _, _, _, _, _, _, _, _, _, _, _, _, _, _, _, _, _, _, _, _, _, _, _, _, _, _, _, _, _, _, _, _, _, _, _, _, _, _], [D]⟩) rfl rfl rfl rfl ?_
            refine EndsOps.nil ?_
            refine Ends.seq ?_
            refine Ends.region ?_
            refine W.op (v := errV ((caS l n (goS l n ((i : Nat) : Int)).1).2)) (fr1 := ⟨[_, _, _, _, _, _, _, _, _, _, _, _, _, _, _, _, _, _, _, _, _, _, _, _, _, _, _, _, _, _, _, _, _, _, _, _, _, _, _, _, _, _, _, _, _, _, _, _, _, _, _, _, _, _, _, _, _, _, _, _, _, _, _, _, _, _, _, _, _, _, _, _, _, _, _, _, errV ((caS l n (goS l n ((i : Nat) : Int)).1).2), _, _, _, _, _, _, _, _, _, _, _, _], [D]⟩) rfl rfl rfl rfl ?_
            refine W.op (v := .bool false) (fr1 := ⟨[_, _, _, _, _, _, _, _, _, _, _, _, _, _, _, _, _, _, _, _, _, _, _, _, _, _, _, _, _, _, _, _, _, _, _, _, _, _, _, _, _, _, _, _, _, _, _, _, _, _, _, _, _, _, _, _, _, _, _, _, _, _, _, _, _, _, _, _, _, _, _, _, _, _, _, _, _, .bool false, _, _, _, _, _, _, _, _, _, _, _], [D]⟩) rfl (p_bin (errneqT (by rw [eca]))) rfl rfl ?_
            refine W.op (v := .bool false) (fr1 := ⟨[_, _, _, _, _, _, _, _, _, _, _, _, _, _, _, _, _, _, _, _, _, _, _, _, _, _, _, _, _, _, _, _, _, _, _, _, _, _, _, _, _, _, _, _, _, _, _, _, _, _, _, _, _, _, _, _, _, _, _, _, _, _, _, _, _, _, _, _, _, _, _, _, _, _, _, _, _, _, .bool false, _, _, _, _, _, _, _, _, _, _], [D]⟩) rfl rfl rfl rfl ?_
            refine W.op (v := .int .i64 ((caS l n (goS l n ((i : Nat) : Int)).1).1)) (fr1 := ⟨[_, _, _, _, _, _, _, _, _, _, _, _, _, _, _, _, _, _, _, _, _, _, _, _, _, _, _, _, _, _, _, _, _, _, _, _, _, _, _, _, _, _, _, _, _, _, _, _, _, _, _, _, _, _, _, _, _, _, _, _, _, _, _, _, _, _, _, _, _, _, _, _, _, _, _, _, _, _, _, .int .i64 ((caS l n (goS l n ((i : Nat) : Int)).1).1), _, _, _, _, _, _, _, _, _], [D]⟩) rfl rfl rfl rfl ?_
            refine W.op (v := .int .i64 ((i : Nat) : Int)) (fr1 := ⟨[_, _, _, _, _, _, _, _, _, _, _, _, _, _, _, _, _, _, _, _, _, _, _, _, _, _, _, _, _, _, _, _, _, _, _, _, _, _, _, _, _, _, _, _, _, _, _, _, _, _, _, _, _, _, _, _, _, _, _, _, _, _, _, _, _, _, _, _, _, _, _, _, _, _, _, _, _, _, _, _, .int .i64 ((i : Nat) : Int), _, _, _, _, _, _, _, _], [D]⟩) rfl rfl rfl rfl ?_
            refine W.op (v := .bool false) (fr1 := ⟨[_, _, _, _, _, _, _, _, _, _, _, _, _, _, _, _, _, _, _, _, _, _, _, _, _, _, _, _, _, _, _, _, _, _, _, _, _, _, _, _, _, _, _, _, _, _, _, _, _, _, _, _, _, _, _, _, _, _, _, _, _, _, _, _, _, _, _, _, _, _, _, _, _, _, _, _, _, _, _, _, _, .bool false, _, _, _, _, _, _, _], [D]⟩) rfl (p_bin (neF (by rw [eca]))) rfl rfl ?_
            refine W.op (v := .bool false) (fr1 := ⟨[_, _, _, _, _, _, _, _, _, _, _, _, _, _, _, _, _, _, _, _, _, _, _, _, _, _, _, _, _, _, _, _, _, _, _, _, _, _, _, _, _, _, _, _, _, _, _, _, _, _, _, _, _, _, _, _, _, _, _, _, _, _, _, _, _, _, _, _, _, _, _, _, _, _, _, _, _, _, _, _, _, _, .bool false, _, _, _, _, _, _], [D]⟩) rfl rfl rfl rfl ?_
            refine EndsOps.nil ?_
            refine Ends.condF rfl ?_
            refine Ends.skip ?_
            refine Ends.region ?_
            refine W.op (v := .int .i64 ((i + 1 : Nat) : Int)) (fr1 := ⟨[_, _, _, _, _, _, _, _, _, _, _, _, _, _, _, _, _, _, _, _, _, _, _, _, _, _, _, _, _, _, _, _, _, _, _, _, _, _, _, _, _, _, _, _, _, _, _, _, _, _, _, _, _, _, _, _, _, _, _, _, _, _, _, _, _, _, _, _, _, _, _, _, _, _, _, _, _, _, _, _, _, _, _, .int .i64 ((i + 1 : Nat) : Int), _, _, _, _, _], [D]⟩) rfl (p_bin (addI (by omega) (by omega) (by omega))) rfl rfl ?_
            refine W.op (v := .int .i64 ((i + 1 : Nat) : Int)) (fr1 := ⟨[_, _, _, _, _, _, _, _, _, _, _, _, _, _, _, _, _, _, _, _, _, _, _, _, _, _, _, _, _, _, _, _, _, _, _, _, _, _, _, _, _, _, _, _, _, _, _, _, _, _, _, _, _, _, _, .int .i64 ((i + 1 : Nat) : Int), _, _, _, _, _, _, _, _, _, _, _, _, _, _, _, _, _, _, _, _, _, _, _, _, _, _, _, _, _, _, _, _, _], [D]⟩) rfl rfl rfl rfl ?_
            refine EndsOps.nil ?_
            exact ⟨_, (by omega), i + 1, m + 1, _, _, _, _, _, _, _, _, _, _, _, _, _, _, _, _, _, _, _, _, _, _, _, _, _, _, _, _, _, _, _, _, _, rfl, hO291, rfl, (by rw [cnt_step h129 hN5 hT5, if_pos h289]; omega), by omega, by omega, r294, r295, r296, ob293⟩
          · skip
            refine W.op (v := .bool true) (fr1 := ⟨[_, _, _, _, _, _, _, _, _, _, _, _, _, _, _, _, _, _, _, _, _, _, _, _, _, _, _, _, _, _, _, _, _, _, _, _, _, _, _, _, _, _, _, _, _, _, _, _, _, _, _, _, _, _, _, _, _, _, _, _, _, _, _, _, _, _, .bool true, _, _, _, _, _, _, _, _, _, _, _, _, _, _, _, _, _, _, _, _, _, _], [D]⟩) rfl (p_bin (errneqF h289)) rfl rfl ?_
            refine EndsOps.nil ?_
            refine Ends.condT rfl ?_
            refine Ends.exit ?_
            refine W.outT rfl ?_
            refine Ends.region ?_
            refine W.op (v := .int .i64 ((i + 1 : Nat) : Int)) (fr1 := ⟨[_, _, _, _, _, _, _, _, _, _, _, _, _, _, _, _, _, _, _, _, _, _, _, _, _, _, _, _, _, _, _, _, _, _, _, _, _, _, _, _, _, _, _, _, _, _, _, _, _, _, _, _, _, _, _, _, _, _, _, _, _, _, _, _, _, _, _, _, _, _, _, _, _, _, _, _, _, _, _, _, _, _, _, .int .i64 ((i + 1 : Nat) : Int), _, _, _, _, _], [D]⟩) rfl (p_bin (addI (by omega) (by omega) (by omega))) rfl rfl ?_
            refine W.op (v := .int .i64 ((i + 1 : Nat) : Int)) (fr1 := ⟨[_, _, _, _, _, _, _, _, _, _, _, _, _, _, _, _, _, _, _, _, _, _, _, _, _, _, _, _, _, _, _, _, _, _, _, _, _, _, _, _, _, _, _, _, _, _, _, _, _, _, _, _, _, _, _, .int .i64 ((i + 1 : Nat) : Int), _, _, _, _, _, _, _, _, _, _, _, _, _, _, _, _, _, _, _, _, _, _, _, _, _, _, _, _, _, _, _, _, _], [D]⟩) rfl rfl rfl rfl ?_
            refine EndsOps.nil ?_
            exact ⟨_, (by omega), i + 1, m, _, _, _, _, _, _, _, _, _, _, _, _, _, _, _, _, _, _, _, _, _, _, _, _, _, _, _, _, _, _, _, _, _, rfl, hO283, rfl, (by rw [cnt_step h129 hN5 hT5, if_neg h289]; omega), by omega, by omega, r286, r287, r288, ob285⟩
        · skip
          refine W.op (v := .bool false) (fr1 := ⟨[_, _, _, _, _, _, _, _, _, _, _, _, _, _, _, _, _, _, _, _, _, _, _, _, _, _, _, _, _, _, _, _, _, _, _, _, _, _, _, _, _, _, _, _, _, _, _, _, _, _, _, _, _, _, _, _, .bool false, _, _, _, _, _, _, _, _, _, _, _, _, _, _, _, _, _, _, _, _, _, _, _, _, _, _, _, _, _, _, _, _], [D]⟩) rfl (p_bin (ltF h281)) rfl rfl ?_
          refine EndsOps.nil ?_
          refine Ends.seq ?_
          refine Ends.condF rfl ?_
          refine Ends.exit ?_
          refine W.outT rfl ?_
          refine Ends.seq ?_
          refine Ends.region ?_
          refine W.op (v := .int .i64 ((cnt : Nat) : Int)) (fr1 := ⟨[_, _, _, _, _, _, _, _, _, _, _, _, _, _, _, _, _, _, _, _, _, _, _, _, _, _, _, _, _, _, _, _, _, _, _, _, _, _, _, _, _, _, _, _, _, _, _, _, _, _, _, _, _, _, _, _, _, _, _, _, _, _, _, _, _, _, _, _, _, _, _, _, _, _, _, _, _, _, _, _, _, _, _, _, .int .i64 ((cnt : Nat) : Int), _, _, _, _], [D]⟩) rfl (p_load1 qN46 rfl rfl rfl rfl) rfl rfl ?_
          refine W.op (v := .int .i64 ((z : Nat) : Int)) (fr1 := ⟨[_, _, _, _, _, _, _, _, _, _, _, _, _, _, _, _, _, _, _, _, _, _, _, _, _, _, _, _, _, _, _, _, _, _, _, _, _, _, _, _, _, _, _, _, _, _, _, _, _, _, _, _, _, _, _, _, _, _, _, _, _, _, _, _, _, _, _, _, _, _, _, _, _, _, _, _, _, _, _, _, _, _, _, _, _, .int .i64 ((z : Nat) : Int), _, _, _], [D]⟩) rfl (p_load1 qN1 rfl rfl rfl rfl) rfl rfl ?_
          refine W.op (v := .int .i64 ((m : Nat) : Int)) (fr1 := ⟨[_, _, _, _, _, _, _, _, _, _, _, _, _, _, _, _, _, _, _, _, _, _, _, _, _, _, _, _, _, _, _, _, _, _, _, _, _, _, _, _, _, _, _, _, _, _, _, _, _, _, _, _, _, _, _, _, _, _, _, _, _, _, _, _, _, _, _, _, _, _, _, _, _, _, _, _, _, _, _, _, _, _, _, _, _, _, .int .i64 ((m : Nat) : Int), _, _], [D]⟩) rfl rfl rfl rfl ?_
          refine W.op (v := .int .i64 (if ((m : Nat) : Int) < ((z : Nat) : Int) then ((m : Nat) : Int) else ((z : Nat) : Int))) (fr1 := ⟨[_, _, _, _, _, _, _, _, _, _, _, _, _, _, _, _, _, _, _, _, _, _, _, _, _, _, _, _, _, _, _, _, _, _, _, _, _, _, _, _, _, _, _, _, _, _, _, _, _, _, _, _, _, _, _, _, _, _, _, _, _, _, _, _, _, _, _, _, _, _, _, _, _, _, _, _, _, _, _, _, _, _, _, _, _, _, _, .int .i64 (if ((m : Nat) : Int) < ((z : Nat) : Int) then ((m : Nat) : Int) else ((z : Nat) : Int)), _], [D]⟩) rfl rfl rfl rfl ?_
          refine W.op (v := .bool true) (fr1 := ⟨[_, _, _, _, _, _, _, _, _, _, _, _, _, _, _, _, _, _, _, _, _, _, _, _, _, _, _, _, _, _, _, _, _, _, _, _, _, _, _, _, _, _, _, _, _, _, _, _, _, _, _, _, _, _, _, _, _, _, _, _, _, _, _, _, _, _, _, _, _, _, _, _, _, _, _, _, _, _, _, _, _, _, _, _, _, _, _, _, .bool true], [D]⟩) rfl (p_bin (eqT (by rw [hcnt, show m = (keptS l n).length from hm.trans (cnt_end h129 (by omega))]; split <;> split <;> omega))) rfl rfl ?_
          refine W.store2 (cs := [.bool true]) (vs' := [.bool true]) (fr1 := ⟨[_, _, _, _, _, _, _, _, _, _, _, _, _, _, _, _, _, _, _, _, _, _, _, _, _, _, _, _, _, _, _, _, _, _, _, _, _, _, _, _, _, _, _, _, _, _, _, _, _, _, _, _, _, _, _, _, _, _, _, _, _, _, _, _, _, _, _, _, _, _, _, _, _, _, _, _, _, _, _, _, _, _, _, _, _, _, _, _, _], [D]⟩) hO279 qN8 hB14 rfl rfl rfl rfl (by kernel_rfl) (by simp) (by simp [END, oneCell]) rfl rfl ?_
          intro s297 hO298 hn299 hu300 r301 hX302
          have ob303 := obD.upd hn299 hu300 ⟨_, ⟨_, _, _, rfl⟩, qN8.get⟩
          have r304 := qN1.upd hn299 hu300 (qN1.ne qN8 (by decide))
          have r305 := qN46.upd hn299 hu300 (qN46.ne qN8 (by decide))
          refine EndsOps.nil ?_
          refine Ends.ret ?_
          exact ⟨rfl, .inr ⟨_, rfl, ob303.get⟩, N8, _, _, _, _, rfl, r301.get, rfl, fun _ => rfl⟩
    · skip
      refine EndsCall.mono (c68F _ _ _ _ _ _ _ _ n h129 L _ _ _ _ _ (Hl.own hO1) r127 r128) ?_
      rintro v s2 ⟨hk2, _⟩
      have hL2 : s2.t.get L = some (.obj (.loop r0)) := (hk2.old L hLlt).trans hL1
      have hO2 := hO1.trans hk2.own
      have hn2 := hk2.next
      have hp0 : r0.pending = none := by subst hr0; rfl
      have r306 := r122.own hk2.own
      have r307 := r123.own hk2.own
      have r308 := r124.own hk2.own
      have r309 := r125.own hk2.own
      have r310 := r126.own hk2.own
      have r311 := r127.own hk2.own
      have r312 := r128.own hk2.own
      refine ⟨r0, hL2, by subst hr0; nofun, ?_⟩
      generalize hs318 : Ev.setL s2 L _ = s317
      obtain ⟨g313, g314, g315, g316⟩ := setL_facts hs318
      have hO319 := Own.setL hO2 hsL (by omega) g313 g314 g316
      have r320 := r306.setL g313 g316 ⟨_, hL2⟩
      have r321 := r307.setL g313 g316 ⟨_, hL2⟩
      have r322 := r308.setL g313 g316 ⟨_, hL2⟩
      have r323 := r309.setL g313 g316 ⟨_, hL2⟩
      have r324 := r310.setL g313 g316 ⟨_, hL2⟩
      have r325 := r311.setL g313 g316 ⟨_, hL2⟩
      have r326 := r312.setL g313 g316 ⟨_, hL2⟩
      rw [hp0]
      have ob327 : Ob s317.t s317.next D (.deferred (some [])) := ⟨(g316 D (by omega)).trans ((hk2.old D hDlt).trans hd1), by omega⟩
      refine Ends.seq ?_
      refine Ends.seq ?_
      refine Ends.region ?_
      refine W.op (v := .slice al l.length cl) (fr1 := ⟨[_, _, _, _, _, _, _, _, _, _, _, _, _, _, _, _, _, _, _, _, _, _, _, _, _, _, _, _, _, _, _, _, _, _, _, _, _, _, _, _, _, _, _, _, _, _, _, _, .slice al l.length cl, _, _, _, _, _, _, _, _, _, _, _, _, _, _, _, _, _, _, _, _, _, _, _, _, _, _, _, _, _, _, _, _, _, _, _, _, _, _, _, _], [D]⟩) rfl rfl rfl rfl ?_
      refine W.op (v := .int .i64 n) (fr1 := ⟨[_, _, _, _, _, _, _, _, _, _, _, _, _, _, _, _, _, _, _, _, _, _, _, _, _, _, _, _, _, _, _, _, _, _, _, _, _, _, _, _, _, _, _, _, _, _, _, _, _, .int .i64 n, _, _, _, _, _, _, _, _, _, _, _, _, _, _, _, _, _, _, _, _, _, _, _, _, _, _, _, _, _, _, _, _, _, _, _, _, _, _, _], [D]⟩) rfl rfl rfl rfl ?_
      refine W.call (ar := [.slice al l.length cl, .int .i64 n]) (X := .bool false) (fr1 := ⟨[_, _, _, _, _, _, _, _, _, _, _, _, _, _, _, _, _, _, _, _, _, _, _, _, _, _, _, _, _, _, _, _, _, _, _, _, _, _, _, _, _, _, _, _, _, _, _, _, _, _, .bool false, _, _, _, _, _, _, _, _, _, _, _, _, _, _, _, _, _, _, _, _, _, _, _, _, _, _, _, _, _, _, _, _, _, _, _, _, _, _], [D]⟩) hO319 rfl rfl rfl rfl ((c23 _ _ _ _ _ _ _ _ n _ (Hl.own hO319)).mono fun v _ _ h => h.trans (congrArg Value.bool (decide_eq_false h129))) rfl ?_
      intro s328 hO329 hS330
      have ob331 := ob327.own hS330
      have r332 := r320.own hS330
      have r333 := r321.own hS330
      have r334 := r322.own hS330
      have r335 := r323.own hS330
      have r336 := r324.own hS330
      have r337 := r325.own hS330
      have r338 := r326.own hS330
      refine W.op (v := .bool true) (fr1 := ⟨[_, _, _, _, _, _, _, _, _, _, _, _, _, _, _, _, _, _, _, _, _, _, _, _, _, _, _, _, _, _, _, _, _, _, _, _, _, _, _, _, _, _, _, _, _, _, _, _, _, _, _, .bool true, _, _, _, _, _, _, _, _, _, _, _, _, _, _, _, _, _, _, _, _, _, _, _, _, _, _, _, _, _, _, _, _, _, _, _, _, _], [D]⟩) rfl rfl rfl rfl ?_
      refine EndsOps.nil ?_
      refine Ends.condT rfl ?_
      refine Ends.seq ?_
      refine Ends.region ?_
      refine W.op (v := .int .i64 0) (fr1 := ⟨[_, _, _, _, _, _, _, _, _, _, _, _, _, _, _, _, _, _, _, _, _, _, _, _, _, _, _, _, _, _, _, _, _, _, _, _, _, _, _, _, _, _, _, _, _, _, _, _, _, _, _, _, .int .i64 0, _, _, _, _, _, _, _, _, _, _, _, _, _, _, _, _, _, _, _, _, _, _, _, _, _, _, _, _, _, _, _, _, _, _, _, _], [D]⟩) rfl (p_load1 r334 rfl rfl rfl rfl) rfl rfl ?_
      refine W.op (v := .bool true) (fr1 := ⟨[_, _, _, _, _, _, _, _, _, _, _, _, _, _, _, _, _, _, _, _, _, _, _, _, _, _, _, _, _, _, _, _, _, _, _, _, _, _, _, _, _, _, _, _, _, _, _, _, _, _, _, _, _, .bool true, _, _, _, _, _, _, _, _, _, _, _, _, _, _, _, _, _, _, _, _, _, _, _, _, _, _, _, _, _, _, _, _, _, _, _], [D]⟩) rfl rfl rfl rfl ?_
      refine W.store2 (cs := [.bool true]) (vs' := [.bool true]) (fr1 := ⟨[_, _, _, _, _, _, _, _, _, _, _, _, _, _, _, _, _, _, _, _, _, _, _, _, _, _, _, _, _, _, _, _, _, _, _, _, _, _, _, _, _, _, _, _, _, _, _, _, _, _, _, _, _, _, _, _, _, _, _, _, _, _, _, _, _, _, _, _, _, _, _, _, _, _, _, _, _, _, _, _, _, _, _, _, _, _, _, _, _], [D]⟩) hO329 r333 hB14 rfl rfl rfl rfl (by kernel_rfl) (by simp) (by simp [END, oneCell]) rfl rfl ?_
      intro s339 hO340 hn341 hu342 r343 hX344
      have ob345 := ob331.upd hn341 hu342 ⟨_, ⟨_, _, _, rfl⟩, r333.get⟩
      have r346 := r332.upd hn341 hu342 (r332.ne r333 (by decide))
      have r347 := r334.upd hn341 hu342 (r334.ne r333 (by decide))
      have r348 := r335.upd hn341 hu342 (r335.ne r333 (by decide))
      have r349 := r336.upd hn341 hu342 (r336.ne r333 (by decide))
      have r350 := r337.upd hn341 hu342 (r337.ne r333 (by decide))
      have r351 := r338.upd hn341 hu342 (r338.ne r333 (by decide))
      refine EndsOps.nil ?_
      refine Ends.ret ?_
      exact ⟨rfl, .inr ⟨_, rfl, ob345.get⟩, N8, _, _, _, _, rfl, r343.get, rfl, fun _ => rfl⟩
end Go.Ev.R1
