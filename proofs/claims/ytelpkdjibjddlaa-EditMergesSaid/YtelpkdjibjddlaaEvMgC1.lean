/-
  EV: contracts of the first seat's functions.
-/
import Derived.Test.YtelpkdjibjddlaaEvMgB1
namespace Go.Ev.R1
open Go Go.Ev Go.Proofs
set_option maxRecDepth 10000
set_option maxHeartbeats 4000000

theorem c9 (x : ByteArray) (hx : (B x).length ≤ 140737488351232) (al : Option Addr) (l : List Ed) (cl Nl ol : Nat) (vl : List Value) (yl zl : Nat) (C : Cp 3 al l.length cl) (K : ∀ e ∈ l, e.Ok) (s : St) (Hl : Sl Ed.cells 3 s.t s.next al l Nl ol vl yl zl) (A : EndsPure R1.T 27 [] s fun v _ _ => v = .bool true) : EndsPure R1.T 9 [.string x, .slice al l.length cl] s (fun v _ _ => v = .bool true) := by
  refine EndsPure.of (rs := [4]) (fr0 := ⟨[.string x, .slice al l.length cl, undef, undef, undef, undef, undef, undef, undef, undef, undef, undef, undef, undef, undef, undef, undef, undef, undef, undef, undef, undef, undef, undef, undef, undef, undef, undef, undef, undef, undef, undef, undef, undef, undef, undef, undef, undef, undef, undef, undef, undef, undef, undef, undef, undef, undef, undef, undef, undef, undef, undef, undef, undef, undef, undef, undef, undef, undef, undef, undef, undef, undef, undef, undef, undef, undef, undef, undef, undef, undef, undef, undef, undef, undef, undef, undef, undef, undef], []⟩) (by kernel_rfl : R1.T.fn 9 = some ⟨79, (Try.f9.body).getD .skip, [.tmp 4]⟩) rfl ?_
  have hO0 := Own.refl s
  have Ml := Hl.small
  simp only [Try.f9, Option.getD]
  refine Ends.seq ?_
  refine Ends.region ?_
  refine W.op (v := .bool false) (fr1 := ⟨[_,_,_,_, .bool false, _,_,_,_,_,_,_,_,_,_,_,_,_,_,_,_,_,_,_,_,_,_,_,_,_,_,_,_,_,_,_,_,_,_,_,_,_,_,_,_,_,_,_,_,_,_,_,_,_,_,_,_,_,_,_,_,_,_,_,_,_,_,_,_,_,_,_,_,_,_,_,_,_,_], []⟩) rfl rfl rfl rfl ?_
  refine EndsOps.nil ?_
  refine Ends.seq ?_
  refine Ends.seq ?_
  refine Ends.region ?_
  refine W.call (ar := []) (X := .bool true) (fr1 := ⟨[_,_,_,_,_,_,_,_,_,_, .bool true, _,_,_,_,_,_,_,_,_,_,_,_,_,_,_,_,_,_,_,_,_,_,_,_,_,_,_,_,_,_,_,_,_,_,_,_,_,_,_,_,_,_,_,_,_,_,_,_,_,_,_,_,_,_,_,_,_,_,_,_,_,_,_,_,_,_,_,_], []⟩) hO0 rfl rfl rfl rfl A rfl ?_
  intro s1 hO2 hS3
  refine W.op (v := .bool false) (fr1 := ⟨[_,_,_,_,_,_,_,_,_,_,_, .bool false, _,_,_,_,_,_,_,_,_,_,_,_,_,_,_,_,_,_,_,_,_,_,_,_,_,_,_,_,_,_,_,_,_,_,_,_,_,_,_,_,_,_,_,_,_,_,_,_,_,_,_,_,_,_,_,_,_,_,_,_,_,_,_,_,_,_,_], []⟩) rfl rfl rfl rfl ?_
  refine EndsOps.nil ?_
  refine Ends.condF rfl ?_
  refine Ends.skip ?_
  refine Ends.seq ?_
  refine Ends.seq ?_
  refine Ends.region ?_
  refine W.op (v := .string x) (fr1 := ⟨[_,_,_,_,_,_,_,_,_,_,_,_, .string x, _,_,_,_,_,_,_,_,_,_,_,_,_,_,_,_,_,_,_,_,_,_,_,_,_,_,_,_,_,_,_,_,_,_,_,_,_,_,_,_,_,_,_,_,_,_,_,_,_,_,_,_,_,_,_,_,_,_,_,_,_,_,_,_,_,_], []⟩) rfl rfl rfl rfl ?_
  refine W.op (v := .slice al l.length cl) (fr1 := ⟨[_,_,_,_,_,_,_,_,_,_,_,_,_, .slice al l.length cl, _,_,_,_,_,_,_,_,_,_,_,_,_,_,_,_,_,_,_,_,_,_,_,_,_,_,_,_,_,_,_,_,_,_,_,_,_,_,_,_,_,_,_,_,_,_,_,_,_,_,_,_,_,_,_,_,_,_,_,_,_,_,_,_,_], []⟩) rfl rfl rfl rfl ?_
  by_cases h4 : Large (B x).length l
  · skip
    refine W.call (ar := [.string x, .slice al l.length cl]) (X := .bool true) (fr1 := ⟨[_,_,_,_,_,_,_,_,_,_,_,_,_,_, .bool true, _,_,_,_,_,_,_,_,_,_,_,_,_,_,_,_,_,_,_,_,_,_,_,_,_,_,_,_,_,_,_,_,_,_,_,_,_,_,_,_,_,_,_,_,_,_,_,_,_,_,_,_,_,_,_,_,_,_,_,_,_,_,_,_], []⟩) hO2 rfl rfl rfl rfl ((c28 x hx _ l _ _ _ _ _ _ K _ (Hl.own hO2)).mono fun v _ _ g => g.trans (congrArg Value.bool (decide_eq_true h4))) rfl ?_
    intro s5 hO6 hS7
    refine EndsOps.nil ?_
    refine Ends.condT rfl ?_
    refine Ends.seq ?_
    refine Ends.region ?_
    refine W.op (v := .bool true) (fr1 := ⟨[_,_,_,_, .bool true, _,_,_,_,_,_,_,_,_,_,_,_,_,_,_,_,_,_,_,_,_,_,_,_,_,_,_,_,_,_,_,_,_,_,_,_,_,_,_,_,_,_,_,_,_,_,_,_,_,_,_,_,_,_,_,_,_,_,_,_,_,_,_,_,_,_,_,_,_,_,_,_,_,_], []⟩) rfl rfl rfl rfl ?_
    refine EndsOps.nil ?_
    refine Ends.ret ?_
    exact ⟨rfl, rfl, hO6, by
      show Value.bool true = Value.bool true
      rfl⟩
  · skip
    have hB : l.length ≤ 1000 := by simp only [Large] at h4; omega
    have hS : (B x).length + sumT l ≤ 1000000 := by simp only [Large] at h4; omega
    refine W.call (ar := [.string x, .slice al l.length cl]) (X := .bool false) (fr1 := ⟨[_,_,_,_,_,_,_,_,_,_,_,_,_,_, .bool false, _,_,_,_,_,_,_,_,_,_,_,_,_,_,_,_,_,_,_,_,_,_,_,_,_,_,_,_,_,_,_,_,_,_,_,_,_,_,_,_,_,_,_,_,_,_,_,_,_,_,_,_,_,_,_,_,_,_,_,_,_,_,_,_], []⟩) hO2 rfl rfl rfl rfl ((c28 x hx _ l _ _ _ _ _ _ K _ (Hl.own hO2)).mono fun v _ _ g => g.trans (congrArg Value.bool (decide_eq_false h4))) rfl ?_
    intro s8 hO9 hS10
    refine EndsOps.nil ?_
    refine Ends.condF rfl ?_
    refine Ends.skip ?_
    refine Ends.seq ?_
    refine Ends.region ?_
    obtain ⟨N11, hN12⟩ : ∃ N, N = s8.next := ⟨_, rfl⟩
    refine W.newE (N := N11) (fr1 := ⟨[_,_,_,_,_,_,_,_,_,_,_,_,_,_,_, .slice (some ⟨N11, 0, none⟩) 0 0, _,_,_,_,_,_,_,_,_,_,_,_,_,_,_,_,_,_,_,_,_,_,_,_,_,_,_,_,_,_,_,_,_,_,_,_,_,_,_,_,_,_,_,_,_,_,_,_,_,_,_,_,_,_,_,_,_,_,_,_,_,_,_], []⟩) hO9 hN12 rfl rfl rfl rfl zero97 rfl rfl ?_
    intro s13 hO14 hS15
    refine W.op (v := .slice al l.length cl) (fr1 := ⟨[_,_,_,_,_,_,_,_,_,_,_,_,_,_,_,_, .slice al l.length cl, _,_,_,_,_,_,_,_,_,_,_,_,_,_,_,_,_,_,_,_,_,_,_,_,_,_,_,_,_,_,_,_,_,_,_,_,_,_,_,_,_,_,_,_,_,_,_,_,_,_,_,_,_,_,_,_,_,_,_,_,_,_], []⟩) rfl rfl rfl rfl ?_
    refine W.appendL (c := Ed.cells) (l := l) (fF := fun v16 => ⟨[_,_,_,_,_,_,_,_,_,_,_,_,_,_,_,_,_, v16, _,_,_,_,_,_,_,_,_,_,_,_,_,_,_,_,_,_,_,_,_,_,_,_,_,_,_,_,_,_,_,_,_,_,_,_,_,_,_,_,_,_,_,_,_,_,_,_,_,_,_,_,_,_,_,_,_,_,_,_,_], []⟩) app22m (fun _ => rfl) (by exact Ed.one) hO14 OL.none (Hl.own hO14) C rfl rfl rfl rfl (by omega) (fun _ => rfl) ?_
    intro v16 s17 hO18 hnx19 hol20
    refine W.op (v := v16) (fr1 := ⟨[_,_,_,_,_, v16, _,_,_,_,_,_,_,_,_,_,_,_,_,_,_,_,_,_,_,_,_,_,_,_,_,_,_,_,_,_,_,_,_,_,_,_,_,_,_,_,_,_,_,_,_,_,_,_,_,_,_,_,_,_,_,_,_,_,_,_,_,_,_,_,_,_,_,_,_,_,_,_,_], []⟩) rfl rfl rfl rfl ?_
    refine EndsOps.nil ?_
    refine Ends.seq ?_
    refine Ends.region ?_
    refine W.op (v := v16) (fr1 := ⟨[_,_,_,_,_,_,_,_,_,_,_,_,_,_,_,_,_,_,_, v16, _,_,_,_,_,_,_,_,_,_,_,_,_,_,_,_,_,_,_,_,_,_,_,_,_,_,_,_,_,_,_,_,_,_,_,_,_,_,_,_,_,_,_,_,_,_,_,_,_,_,_,_,_,_,_,_,_,_,_], []⟩) rfl rfl rfl rfl ?_
    refine W.op (v := .string x) (fr1 := ⟨[_,_,_,_,_,_,_,_,_,_,_,_,_,_,_,_,_,_,_,_, .string x, _,_,_,_,_,_,_,_,_,_,_,_,_,_,_,_,_,_,_,_,_,_,_,_,_,_,_,_,_,_,_,_,_,_,_,_,_,_,_,_,_,_,_,_,_,_,_,_,_,_,_,_,_,_,_,_,_,_], []⟩) rfl rfl rfl rfl ?_
    refine W.op (v := .int .i64 (((B x).length : Nat) : Int)) (fr1 := ⟨[_,_,_,_,_,_,_,_,_,_,_,_,_,_,_,_,_,_,_,_,_, .int .i64 (((B x).length : Nat) : Int), _,_,_,_,_,_,_,_,_,_,_,_,_,_,_,_,_,_,_,_,_,_,_,_,_,_,_,_,_,_,_,_,_,_,_,_,_,_,_,_,_,_,_,_,_,_,_,_,_,_,_,_,_,_,_,_,_], []⟩) rfl rfl rfl rfl ?_
    obtain ⟨a21, cq22, N23, v24, y25, z26, rfl, H27, lo28, C29⟩ := hol20.sl (fun _ => rfl)
    have sm_a21 := H27.small
    by_cases h30 : Right l (((B x).length : Nat) : Int)
    · skip
      refine W.callE (ar := [.slice a21 l.length cq22, .int .i64 (((B x).length : Nat) : Int)]) (fF := fun v31 => ⟨[_,_,_,_,_,_,_,_,_,_,_,_,_,_,_,_,_,_,_,_,_,_, v31, _,_,_,_,_,_,_,_,_,_,_,_,_,_,_,_,_,_,_,_,_,_,_,_,_,_,_,_,_,_,_,_,_,_,_,_,_,_,_,_,_,_,_,_,_,_,_,_,_,_,_,_,_,_,_,_], []⟩) hO18 rfl rfl rfl rfl (c51T _ l _ _ _ _ _ _ _ h30 (by omega) (by omega) _ (H27.own (Own.refl s17))) (fun _ => rfl) ?_
      intro v31 s32 hR35 hO33 hS34
      have hE36 := (Own.refl s17).trans hS34
      obtain ⟨a37, cq38, N39, v40, y41, z42, rfl, H43⟩ := hR35
      refine W.op (v := .tuple ⟨[.slice a37 ((mgS l).length) cq38, .nilIface]⟩) (fr1 := ⟨[_,_,_,_,_,_,_,_,_,_,_,_,_,_,_,_,_,_, .tuple ⟨[.slice a37 ((mgS l).length) cq38, .nilIface]⟩, _,_,_,_,_,_,_,_,_,_,_,_,_,_,_,_,_,_,_,_,_,_,_,_,_,_,_,_,_,_,_,_,_,_,_,_,_,_,_,_,_,_,_,_,_,_,_,_,_,_,_,_,_,_,_,_,_,_,_,_], []⟩) rfl rfl rfl rfl ?_
      refine W.op (v := .slice a37 ((mgS l).length) cq38) (fr1 := ⟨[_,_,_,_,_,_,_,_,_,_,_,_,_,_,_,_,_,_,_,_,_,_,_, .slice a37 ((mgS l).length) cq38, _,_,_,_,_,_,_,_,_,_,_,_,_,_,_,_,_,_,_,_,_,_,_,_,_,_,_,_,_,_,_,_,_,_,_,_,_,_,_,_,_,_,_,_,_,_,_,_,_,_,_,_,_,_,_], []⟩) rfl rfl rfl rfl ?_
      refine W.op (v := .nilIface) (fr1 := ⟨[_,_,_,_,_,_,_,_,_,_,_,_,_,_,_,_,_,_,_,_,_,_,_,_, .nilIface, _,_,_,_,_,_,_,_,_,_,_,_,_,_,_,_,_,_,_,_,_,_,_,_,_,_,_,_,_,_,_,_,_,_,_,_,_,_,_,_,_,_,_,_,_,_,_,_,_,_,_,_,_,_], []⟩) rfl rfl rfl rfl ?_
      refine W.op (v := .slice a37 ((mgS l).length) cq38) (fr1 := ⟨[_,_,_,_,_,_, .slice a37 ((mgS l).length) cq38, _,_,_,_,_,_,_,_,_,_,_,_,_,_,_,_,_,_,_,_,_,_,_,_,_,_,_,_,_,_,_,_,_,_,_,_,_,_,_,_,_,_,_,_,_,_,_,_,_,_,_,_,_,_,_,_,_,_,_,_,_,_,_,_,_,_,_,_,_,_,_,_], []⟩) rfl rfl rfl rfl ?_
      refine W.op (v := .nilIface) (fr1 := ⟨[_,_,_,_,_,_,_, .nilIface, _,_,_,_,_,_,_,_,_,_,_,_,_,_,_,_,_,_,_,_,_,_,_,_,_,_,_,_,_,_,_,_,_,_,_,_,_,_,_,_,_,_,_,_,_,_,_,_,_,_,_,_,_,_,_,_,_,_,_,_,_,_,_,_,_,_,_,_,_,_,_], []⟩) rfl rfl rfl rfl ?_
      refine EndsOps.nil ?_
      refine Ends.seq ?_
      refine Ends.region ?_
      refine W.op (v := .string x) (fr1 := ⟨[_,_,_,_,_,_,_,_,_,_,_,_,_,_,_,_,_,_,_,_,_,_,_,_,_,_, .string x, _,_,_,_,_,_,_,_,_,_,_,_,_,_,_,_,_,_,_,_,_,_,_,_,_,_,_,_,_,_,_,_,_,_,_,_,_,_,_,_,_,_,_,_,_,_,_,_,_,_,_,_], []⟩) rfl rfl rfl rfl ?_
      refine W.op (v := .slice a21 l.length cq22) (fr1 := ⟨[_,_,_,_,_,_,_,_,_,_,_,_,_,_,_,_,_,_,_,_,_,_,_,_,_,_,_, .slice a21 l.length cq22, _,_,_,_,_,_,_,_,_,_,_,_,_,_,_,_,_,_,_,_,_,_,_,_,_,_,_,_,_,_,_,_,_,_,_,_,_,_,_,_,_,_,_,_,_,_,_,_,_,_,_], []⟩) rfl rfl rfl rfl ?_
      refine W.callE (ar := [.string x, .slice a21 l.length cq22]) (fF := fun v44 => ⟨[_,_,_,_,_,_,_,_,_,_,_,_,_,_,_,_,_,_,_,_,_,_,_,_,_,_,_,_, v44, _,_,_,_,_,_,_,_,_,_,_,_,_,_,_,_,_,_,_,_,_,_,_,_,_,_,_,_,_,_,_,_,_,_,_,_,_,_,_,_,_,_,_,_,_,_,_,_,_,_], []⟩) hO33 rfl rfl rfl rfl (c52T x hx _ l _ _ _ _ _ _ h30 (by omega) C29 _ (H27.own hE36)) (fun _ => rfl) ?_
      intro v44 s45 hR48 hO46 hS47
      have hE49 := hE36.trans hS47
      have hE50 := (Own.refl s32).trans hS47
      obtain ⟨a51, cq52, N53, v54, y55, z56, rfl, H57⟩ := hR48
      refine W.op (v := .tuple ⟨[.slice a51 ((rmP (SameX x) l).length) cq52, .nilIface]⟩) (fr1 := ⟨[_,_,_,_,_,_,_,_,_,_,_,_,_,_,_,_,_,_,_,_,_,_,_,_,_, .tuple ⟨[.slice a51 ((rmP (SameX x) l).length) cq52, .nilIface]⟩, _,_,_,_,_,_,_,_,_,_,_,_,_,_,_,_,_,_,_,_,_,_,_,_,_,_,_,_,_,_,_,_,_,_,_,_,_,_,_,_,_,_,_,_,_,_,_,_,_,_,_,_,_], []⟩) rfl rfl rfl rfl ?_
      refine W.op (v := .slice a51 ((rmP (SameX x) l).length) cq52) (fr1 := ⟨[_,_,_,_,_,_,_,_,_,_,_,_,_,_,_,_,_,_,_,_,_,_,_,_,_,_,_,_,_, .slice a51 ((rmP (SameX x) l).length) cq52, _,_,_,_,_,_,_,_,_,_,_,_,_,_,_,_,_,_,_,_,_,_,_,_,_,_,_,_,_,_,_,_,_,_,_,_,_,_,_,_,_,_,_,_,_,_,_,_,_], []⟩) rfl rfl rfl rfl ?_
      refine W.op (v := .nilIface) (fr1 := ⟨[_,_,_,_,_,_,_,_,_,_,_,_,_,_,_,_,_,_,_,_,_,_,_,_,_,_,_,_,_,_, .nilIface, _,_,_,_,_,_,_,_,_,_,_,_,_,_,_,_,_,_,_,_,_,_,_,_,_,_,_,_,_,_,_,_,_,_,_,_,_,_,_,_,_,_,_,_,_,_,_,_], []⟩) rfl rfl rfl rfl ?_
      refine W.op (v := .slice a51 ((rmP (SameX x) l).length) cq52) (fr1 := ⟨[_,_,_,_,_,_,_,_, .slice a51 ((rmP (SameX x) l).length) cq52, _,_,_,_,_,_,_,_,_,_,_,_,_,_,_,_,_,_,_,_,_,_,_,_,_,_,_,_,_,_,_,_,_,_,_,_,_,_,_,_,_,_,_,_,_,_,_,_,_,_,_,_,_,_,_,_,_,_,_,_,_,_,_,_,_,_,_,_,_,_], []⟩) rfl rfl rfl rfl ?_
      refine W.op (v := .nilIface) (fr1 := ⟨[_,_,_,_,_,_,_,_,_, .nilIface, _,_,_,_,_,_,_,_,_,_,_,_,_,_,_,_,_,_,_,_,_,_,_,_,_,_,_,_,_,_,_,_,_,_,_,_,_,_,_,_,_,_,_,_,_,_,_,_,_,_,_,_,_,_,_,_,_,_,_,_,_,_,_,_,_,_,_,_,_], []⟩) rfl rfl rfl rfl ?_
      refine EndsOps.nil ?_
      refine Ends.seq ?_
      refine Ends.seq ?_
      refine Ends.region ?_
      refine W.op (v := .slice a21 l.length cq22) (fr1 := ⟨[_,_,_,_,_,_,_,_,_,_,_,_,_,_,_,_,_,_,_,_,_,_,_,_,_,_,_,_,_,_,_, .slice a21 l.length cq22, _,_,_,_,_,_,_,_,_,_,_,_,_,_,_,_,_,_,_,_,_,_,_,_,_,_,_,_,_,_,_,_,_,_,_,_,_,_,_,_,_,_,_,_,_,_,_], []⟩) rfl rfl rfl rfl ?_
      refine W.op (v := .slice al l.length cl) (fr1 := ⟨[_,_,_,_,_,_,_,_,_,_,_,_,_,_,_,_,_,_,_,_,_,_,_,_,_,_,_,_,_,_,_,_, .slice al l.length cl, _,_,_,_,_,_,_,_,_,_,_,_,_,_,_,_,_,_,_,_,_,_,_,_,_,_,_,_,_,_,_,_,_,_,_,_,_,_,_,_,_,_,_,_,_,_], []⟩) rfl rfl rfl rfl ?_
      refine W.call (ar := [.slice a21 l.length cq22, .slice al l.length cl]) (X := .bool true) (fr1 := ⟨[_,_,_,_,_,_,_,_,_,_,_,_,_,_,_,_,_,_,_,_,_,_,_,_,_,_,_,_,_,_,_,_,_, .bool true, _,_,_,_,_,_,_,_,_,_,_,_,_,_,_,_,_,_,_,_,_,_,_,_,_,_,_,_,_,_,_,_,_,_,_,_,_,_,_,_,_,_,_,_,_], []⟩) hO46 rfl rfl rfl rfl ((Q.c33 _ _ _ _ _ _ _ _ _ _ _ _ _ _ _ _ _ (H27.own hE49) (Hl.own hO46)).mono fun v _ _ g => g.trans (congrArg Value.bool (decide_eq_true rfl))) rfl ?_
      intro s58 hO59 hS60
      have hE61 := hE49.trans hS60
      have hE62 := hE50.trans hS60
      have hE63 := (Own.refl s45).trans hS60
      refine W.op (v := .bool false) (fr1 := ⟨[_,_,_,_,_,_,_,_,_,_,_,_,_,_,_,_,_,_,_,_,_,_,_,_,_,_,_,_,_,_,_,_,_,_, .bool false, _,_,_,_,_,_,_,_,_,_,_,_,_,_,_,_,_,_,_,_,_,_,_,_,_,_,_,_,_,_,_,_,_,_,_,_,_,_,_,_,_,_,_,_], []⟩) rfl rfl rfl rfl ?_
      refine EndsOps.nil ?_
      refine Ends.condF rfl ?_
      refine Ends.skip ?_
      refine Ends.seq ?_
      refine Ends.seq ?_
      refine Ends.region ?_
      refine W.op (v := .slice al l.length cl) (fr1 := ⟨[_,_,_,_,_,_,_,_,_,_,_,_,_,_,_,_,_,_,_,_,_,_,_,_,_,_,_,_,_,_,_,_,_,_,_, .slice al l.length cl, _,_,_,_,_,_,_,_,_,_,_,_,_,_,_,_,_,_,_,_,_,_,_,_,_,_,_,_,_,_,_,_,_,_,_,_,_,_,_,_,_,_,_], []⟩) rfl rfl rfl rfl ?_
      refine W.op (v := .string x) (fr1 := ⟨[_,_,_,_,_,_,_,_,_,_,_,_,_,_,_,_,_,_,_,_,_,_,_,_,_,_,_,_,_,_,_,_,_,_,_,_, .string x, _,_,_,_,_,_,_,_,_,_,_,_,_,_,_,_,_,_,_,_,_,_,_,_,_,_,_,_,_,_,_,_,_,_,_,_,_,_,_,_,_,_], []⟩) rfl rfl rfl rfl ?_
      refine W.op (v := .int .i64 (((B x).length : Nat) : Int)) (fr1 := ⟨[_,_,_,_,_,_,_,_,_,_,_,_,_,_,_,_,_,_,_,_,_,_,_,_,_,_,_,_,_,_,_,_,_,_,_,_,_, .int .i64 (((B x).length : Nat) : Int), _,_,_,_,_,_,_,_,_,_,_,_,_,_,_,_,_,_,_,_,_,_,_,_,_,_,_,_,_,_,_,_,_,_,_,_,_,_,_,_,_], []⟩) rfl rfl rfl rfl ?_
      refine W.call (ar := [.slice al l.length cl, .int .i64 (((B x).length : Nat) : Int)]) (X := .bool true) (fr1 := ⟨[_,_,_,_,_,_,_,_,_,_,_,_,_,_,_,_,_,_,_,_,_,_,_,_,_,_,_,_,_,_,_,_,_,_,_,_,_,_, .bool true, _,_,_,_,_,_,_,_,_,_,_,_,_,_,_,_,_,_,_,_,_,_,_,_,_,_,_,_,_,_,_,_,_,_,_,_,_,_,_,_], []⟩) hO59 rfl rfl rfl rfl ((c23 _ _ _ _ _ _ _ _ (((B x).length : Nat) : Int) _ (Hl.own hO59)).mono fun v _ _ h => h.trans (congrArg Value.bool (decide_eq_true h30))) rfl ?_
      intro s64 hO65 hS66
      have hE67 := hE61.trans hS66
      have hE68 := hE62.trans hS66
      have hE69 := hE63.trans hS66
      refine W.op (v := .bool false) (fr1 := ⟨[_,_,_,_,_,_,_,_,_,_,_,_,_,_,_,_,_,_,_,_,_,_,_,_,_,_,_,_,_,_,_,_,_,_,_,_,_,_,_, .bool false, _,_,_,_,_,_,_,_,_,_,_,_,_,_,_,_,_,_,_,_,_,_,_,_,_,_,_,_,_,_,_,_,_,_,_,_,_,_,_], []⟩) rfl rfl rfl rfl ?_
      refine EndsOps.nil ?_
      refine Ends.condF rfl ?_
      refine Ends.skip ?_
      refine Ends.seq ?_
      refine Ends.region ?_
      refine W.op (v := .nilIface) (fr1 := ⟨[_,_,_,_,_,_,_,_,_,_,_,_,_,_,_,_,_,_,_,_,_,_,_,_,_,_,_,_,_,_,_,_,_,_,_,_,_,_,_,_,_,_,_,_,_,_,_,_,_,_,_,_,_,_, .nilIface, _,_,_,_,_,_,_,_,_,_,_,_,_,_,_,_,_,_,_,_,_,_,_,_], []⟩) rfl rfl rfl rfl ?_
      refine W.op (v := .bool true) (fr1 := ⟨[_,_,_,_,_,_,_,_,_,_,_,_,_,_,_,_,_,_,_,_,_,_,_,_,_,_,_,_,_,_,_,_,_,_,_,_,_,_,_,_,_,_,_,_,_,_,_,_,_,_,_,_,_,_,_, .bool true, _,_,_,_,_,_,_,_,_,_,_,_,_,_,_,_,_,_,_,_,_,_,_], []⟩) rfl rfl rfl rfl ?_
      refine W.op (v := .bool true) (fr1 := ⟨[_,_,_,_,_,_,_,_,_,_,_,_,_,_,_,_,_,_,_,_,_,_,_,_,_,_,_,_,_,_,_,_,_,_,_,_,_,_,_,_,_,_,_,_,_,_,_,_,_,_,_,_,_,_,_,_, .bool true, _,_,_,_,_,_,_,_,_,_,_,_,_,_,_,_,_,_,_,_,_,_], []⟩) rfl rfl rfl rfl ?_
      refine W.op (v := .nilIface) (fr1 := ⟨[_,_,_,_,_,_,_,_,_,_,_,_,_,_,_,_,_,_,_,_,_,_,_,_,_,_,_,_,_,_,_,_,_,_,_,_,_,_,_,_,_,_,_,_,_,_,_,_,_,_,_,_,_,_,_,_,_, .nilIface, _,_,_,_,_,_,_,_,_,_,_,_,_,_,_,_,_,_,_,_,_], []⟩) rfl rfl rfl rfl ?_
      refine W.op (v := .bool true) (fr1 := ⟨[_,_,_,_,_,_,_,_,_,_,_,_,_,_,_,_,_,_,_,_,_,_,_,_,_,_,_,_,_,_,_,_,_,_,_,_,_,_,_,_,_,_,_,_,_,_,_,_,_,_,_,_,_,_,_,_,_,_, .bool true, _,_,_,_,_,_,_,_,_,_,_,_,_,_,_,_,_,_,_,_], []⟩) rfl rfl rfl rfl ?_
      refine W.op (v := .bool true) (fr1 := ⟨[_,_,_,_,_,_,_,_,_,_,_,_,_,_,_,_,_,_,_,_,_,_,_,_,_,_,_,_,_,_,_,_,_,_,_,_,_,_,_,_,_,_,_,_,_,_,_,_,_,_,_,_,_,_,_,_,_,_,_, .bool true, _,_,_,_,_,_,_,_,_,_,_,_,_,_,_,_,_,_,_], []⟩) rfl rfl rfl rfl ?_
      refine W.op (v := .bool true) (fr1 := ⟨[_,_,_,_,_,_,_,_,_,_,_,_,_,_,_,_,_,_,_,_,_,_,_,_,_,_,_,_,_,_,_,_,_,_,_,_,_,_,_,_,_,_,_,_,_,_,_,_,_,_,_,_,_,_,_,_,_,_,_,_, .bool true, _,_,_,_,_,_,_,_,_,_,_,_,_,_,_,_,_,_], []⟩) rfl rfl rfl rfl ?_
      refine W.op (v := .slice a37 ((mgS l).length) cq38) (fr1 := ⟨[_,_,_,_,_,_,_,_,_,_,_,_,_,_,_,_,_,_,_,_,_,_,_,_,_,_,_,_,_,_,_,_,_,_,_,_,_,_,_,_,_,_,_,_,_,_,_,_,_,_,_,_,_,_,_,_,_,_,_,_,_, .slice a37 ((mgS l).length) cq38, _,_,_,_,_,_,_,_,_,_,_,_,_,_,_,_,_], []⟩) rfl rfl rfl rfl ?_
      refine W.op (v := .slice al l.length cl) (fr1 := ⟨[_,_,_,_,_,_,_,_,_,_,_,_,_,_,_,_,_,_,_,_,_,_,_,_,_,_,_,_,_,_,_,_,_,_,_,_,_,_,_,_,_,_,_,_,_,_,_,_,_,_,_,_,_,_,_,_,_,_,_,_,_,_, .slice al l.length cl, _,_,_,_,_,_,_,_,_,_,_,_,_,_,_,_], []⟩) rfl rfl rfl rfl ?_
      refine W.callE (ar := [.slice al l.length cl]) (fF := fun v70 => ⟨[_,_,_,_,_,_,_,_,_,_,_,_,_,_,_,_,_,_,_,_,_,_,_,_,_,_,_,_,_,_,_,_,_,_,_,_,_,_,_,_,_,_,_,_,_,_,_,_,_,_,_,_,_,_,_,_,_,_,_,_,_,_,_, v70, _,_,_,_,_,_,_,_,_,_,_,_,_,_,_], []⟩) hO65 rfl rfl rfl rfl (c53 _ l _ _ _ _ _ _ (by omega) (by omega) _ (Hl.own hO65)) (fun _ => rfl) ?_
      intro v70 s71 hR74 hO72 hS73
      have hE75 := hE67.trans hS73
      have hE76 := hE68.trans hS73
      have hE77 := hE69.trans hS73
      obtain ⟨a78, cq79, N80, v81, y82, z83, rfl, H84, lo85, C86⟩ := hR74.sl (fun _ => rfl)
      have sm_a78 := H84.small
      refine W.call (ar := [.slice a37 ((mgS l).length) cq38, .slice a78 ((keptR (mgF l)).length) cq79]) (X := .bool true) (fr1 := ⟨[_,_,_,_,_,_,_,_,_,_,_,_,_,_,_,_,_,_,_,_,_,_,_,_,_,_,_,_,_,_,_,_,_,_,_,_,_,_,_,_,_,_,_,_,_,_,_,_,_,_,_,_,_,_,_,_,_,_,_,_,_,_,_,_, .bool true, _,_,_,_,_,_,_,_,_,_,_,_,_,_], []⟩) hO72 rfl rfl rfl rfl ((Q.c33 _ _ _ _ _ _ _ _ _ _ _ _ _ _ _ _ _ (H43.own hE76) (H84.own (Own.refl s71))).mono fun v _ _ g => g.trans (congrArg Value.bool (decide_eq_true (mg_kept h30)))) rfl ?_
      intro s87 hO88 hS89
      have hE90 := hE75.trans hS89
      have hE91 := hE76.trans hS89
      have hE92 := hE77.trans hS89
      have hE93 := (Own.refl s71).trans hS89
      refine W.op (v := .bool true) (fr1 := ⟨[_,_,_,_,_,_,_,_,_,_,_,_,_,_,_,_,_,_,_,_,_,_,_,_,_,_,_,_,_,_,_,_,_,_,_,_,_,_,_,_,_,_,_,_,_,_,_,_,_,_,_,_,_,_,_,_,_,_,_,_,_,_,_,_,_, .bool true, _,_,_,_,_,_,_,_,_,_,_,_,_], []⟩) rfl rfl rfl rfl ?_
      refine W.op (v := .bool true) (fr1 := ⟨[_,_,_,_,_,_,_,_,_,_,_,_,_,_,_,_,_,_,_,_,_,_,_,_,_,_,_,_,_,_,_,_,_,_,_,_,_,_,_,_,_,_,_,_,_,_,_,_,_,_,_,_,_,_,_,_,_,_,_,_,_,_,_,_,_,_, .bool true, _,_,_,_,_,_,_,_,_,_,_,_], []⟩) rfl rfl rfl rfl ?_
      refine W.op (v := .slice a51 ((rmP (SameX x) l).length) cq52) (fr1 := ⟨[_,_,_,_,_,_,_,_,_,_,_,_,_,_,_,_,_,_,_,_,_,_,_,_,_,_,_,_,_,_,_,_,_,_,_,_,_,_,_,_,_,_,_,_,_,_,_,_,_,_,_,_,_,_,_,_,_,_,_,_,_,_,_,_,_,_,_, .slice a51 ((rmP (SameX x) l).length) cq52, _,_,_,_,_,_,_,_,_,_,_], []⟩) rfl rfl rfl rfl ?_
      refine W.op (v := .string x) (fr1 := ⟨[_,_,_,_,_,_,_,_,_,_,_,_,_,_,_,_,_,_,_,_,_,_,_,_,_,_,_,_,_,_,_,_,_,_,_,_,_,_,_,_,_,_,_,_,_,_,_,_,_,_,_,_,_,_,_,_,_,_,_,_,_,_,_,_,_,_,_,_, .string x, _,_,_,_,_,_,_,_,_,_], []⟩) rfl rfl rfl rfl ?_
      refine W.op (v := .slice al l.length cl) (fr1 := ⟨[_,_,_,_,_,_,_,_,_,_,_,_,_,_,_,_,_,_,_,_,_,_,_,_,_,_,_,_,_,_,_,_,_,_,_,_,_,_,_,_,_,_,_,_,_,_,_,_,_,_,_,_,_,_,_,_,_,_,_,_,_,_,_,_,_,_,_,_,_, .slice al l.length cl, _,_,_,_,_,_,_,_,_], []⟩) rfl rfl rfl rfl ?_
      refine W.callE (ar := [.string x, .slice al l.length cl]) (fF := fun v94 => ⟨[_,_,_,_,_,_,_,_,_,_,_,_,_,_,_,_,_,_,_,_,_,_,_,_,_,_,_,_,_,_,_,_,_,_,_,_,_,_,_,_,_,_,_,_,_,_,_,_,_,_,_,_,_,_,_,_,_,_,_,_,_,_,_,_,_,_,_,_,_,_, v94, _,_,_,_,_,_,_,_], []⟩) hO88 rfl rfl rfl rfl (c54 x hx _ l _ _ _ _ _ _ h30 (by omega) _ (Hl.own hO88)) (fun _ => rfl) ?_
      intro v94 s95 hR98 hO96 hS97
      have hE99 := hE90.trans hS97
      have hE100 := hE91.trans hS97
      have hE101 := hE92.trans hS97
      have hE102 := hE93.trans hS97
      obtain ⟨a103, cq104, N105, v106, y107, z108, rfl, H109, lo110, C111⟩ := hR98.sl (fun _ => rfl)
      have sm_a103 := H109.small
      refine W.call (ar := [.slice a51 ((rmP (SameX x) l).length) cq52, .slice a103 ((rmP (SameX x) l).length) cq104]) (X := .bool true) (fr1 := ⟨[_,_,_,_,_,_,_,_,_,_,_,_,_,_,_,_,_,_,_,_,_,_,_,_,_,_,_,_,_,_,_,_,_,_,_,_,_,_,_,_,_,_,_,_,_,_,_,_,_,_,_,_,_,_,_,_,_,_,_,_,_,_,_,_,_,_,_,_,_,_,_, .bool true, _,_,_,_,_,_,_], []⟩) hO96 rfl rfl rfl rfl ((Q.c33 _ _ _ _ _ _ _ _ _ _ _ _ _ _ _ _ _ (H57.own hE101) (H109.own (Own.refl s95))).mono fun v _ _ g => g.trans (congrArg Value.bool (decide_eq_true rfl))) rfl ?_
      intro s112 hO113 hS114
      have hE115 := hE99.trans hS114
      have hE116 := hE100.trans hS114
      have hE117 := hE101.trans hS114
      have hE118 := hE102.trans hS114
      have hE119 := (Own.refl s95).trans hS114
      refine W.op (v := .bool true) (fr1 := ⟨[_,_,_,_,_,_,_,_,_,_,_,_,_,_,_,_,_,_,_,_,_,_,_,_,_,_,_,_,_,_,_,_,_,_,_,_,_,_,_,_,_,_,_,_,_,_,_,_,_,_,_,_,_,_,_,_,_,_,_,_,_,_,_,_,_,_,_,_,_,_,_,_, .bool true, _,_,_,_,_,_], []⟩) rfl rfl rfl rfl ?_
      refine W.op (v := .bool true) (fr1 := ⟨[_,_,_,_,_,_,_,_,_,_,_,_,_,_,_,_,_,_,_,_,_,_,_,_,_,_,_,_,_,_,_,_,_,_,_,_,_,_,_,_,_,_,_,_,_,_,_,_,_,_,_,_,_,_,_,_,_,_,_,_,_,_,_,_,_,_,_,_,_,_,_,_,_, .bool true, _,_,_,_,_], []⟩) rfl rfl rfl rfl ?_
      refine W.op (v := .slice a37 ((mgS l).length) cq38) (fr1 := ⟨[_,_,_,_,_,_,_,_,_,_,_,_,_,_,_,_,_,_,_,_,_,_,_,_,_,_,_,_,_,_,_,_,_,_,_,_,_,_,_,_,_,_,_,_,_,_,_,_,_,_,_,_,_,_,_,_,_,_,_,_,_,_,_,_,_,_,_,_,_,_,_,_,_,_, .slice a37 ((mgS l).length) cq38, _,_,_,_], []⟩) rfl rfl rfl rfl ?_
      refine W.op (v := .string x) (fr1 := ⟨[_,_,_,_,_,_,_,_,_,_,_,_,_,_,_,_,_,_,_,_,_,_,_,_,_,_,_,_,_,_,_,_,_,_,_,_,_,_,_,_,_,_,_,_,_,_,_,_,_,_,_,_,_,_,_,_,_,_,_,_,_,_,_,_,_,_,_,_,_,_,_,_,_,_,_, .string x, _,_,_], []⟩) rfl rfl rfl rfl ?_
      refine W.op (v := .int .i64 (((B x).length : Nat) : Int)) (fr1 := ⟨[_,_,_,_,_,_,_,_,_,_,_,_,_,_,_,_,_,_,_,_,_,_,_,_,_,_,_,_,_,_,_,_,_,_,_,_,_,_,_,_,_,_,_,_,_,_,_,_,_,_,_,_,_,_,_,_,_,_,_,_,_,_,_,_,_,_,_,_,_,_,_,_,_,_,_,_, .int .i64 (((B x).length : Nat) : Int), _,_], []⟩) rfl rfl rfl rfl ?_
      refine W.call (ar := [.slice a37 ((mgS l).length) cq38, .int .i64 (((B x).length : Nat) : Int)]) (X := .bool true) (fr1 := ⟨[_,_,_,_,_,_,_,_,_,_,_,_,_,_,_,_,_,_,_,_,_,_,_,_,_,_,_,_,_,_,_,_,_,_,_,_,_,_,_,_,_,_,_,_,_,_,_,_,_,_,_,_,_,_,_,_,_,_,_,_,_,_,_,_,_,_,_,_,_,_,_,_,_,_,_,_,_, .bool true, _], []⟩) hO113 rfl rfl rfl rfl ((c36 _ _ _ _ _ _ _ _ _ _ (H43.own hE116)).mono fun v _ _ g => g.trans (congrArg Value.bool (decide_eq_true (mg_plain h30)))) rfl ?_
      intro s120 hO121 hS122
      have hE123 := hE115.trans hS122
      have hE124 := hE116.trans hS122
      have hE125 := hE117.trans hS122
      have hE126 := hE118.trans hS122
      have hE127 := hE119.trans hS122
      refine W.op (v := .bool true) (fr1 := ⟨[_,_,_,_,_,_,_,_,_,_,_,_,_,_,_,_,_,_,_,_,_,_,_,_,_,_,_,_,_,_,_,_,_,_,_,_,_,_,_,_,_,_,_,_,_,_,_,_,_,_,_,_,_,_,_,_,_,_,_,_,_,_,_,_,_,_,_,_,_,_,_,_,_,_,_,_,_,_, .bool true], []⟩) rfl rfl rfl rfl ?_
      refine W.op (v := .bool true) (fr1 := ⟨[_,_,_,_, .bool true, _,_,_,_,_,_,_,_,_,_,_,_,_,_,_,_,_,_,_,_,_,_,_,_,_,_,_,_,_,_,_,_,_,_,_,_,_,_,_,_,_,_,_,_,_,_,_,_,_,_,_,_,_,_,_,_,_,_,_,_,_,_,_,_,_,_,_,_,_,_,_,_,_,_], []⟩) rfl rfl rfl rfl ?_
      refine EndsOps.nil ?_
      refine Ends.ret ?_
      exact ⟨rfl, rfl, hO121, by
        show Value.bool true = Value.bool true
        rfl⟩
    · skip
      refine W.call (ar := [.slice a21 l.length cq22, .int .i64 (((B x).length : Nat) : Int)]) (X := .tuple ⟨[.slice none 0 0, .iface 37 (.int .i64 2)]⟩) (fr1 := ⟨[_,_,_,_,_,_,_,_,_,_,_,_,_,_,_,_,_,_,_,_,_,_, .tuple ⟨[.slice none 0 0, .iface 37 (.int .i64 2)]⟩, _,_,_,_,_,_,_,_,_,_,_,_,_,_,_,_,_,_,_,_,_,_,_,_,_,_,_,_,_,_,_,_,_,_,_,_,_,_,_,_,_,_,_,_,_,_,_,_,_,_,_,_,_,_,_,_], []⟩) hO18 rfl rfl rfl rfl (c51F _ l _ _ _ _ _ _ _ h30 _ (H27.own (Own.refl s17))) rfl ?_
      intro s128 hO129 hS130
      have hE131 := (Own.refl s17).trans hS130
      refine W.op (v := .tuple ⟨[.slice none 0 0, .iface 37 (.int .i64 2)]⟩) (fr1 := ⟨[_,_,_,_,_,_,_,_,_,_,_,_,_,_,_,_,_,_, .tuple ⟨[.slice none 0 0, .iface 37 (.int .i64 2)]⟩, _,_,_,_,_,_,_,_,_,_,_,_,_,_,_,_,_,_,_,_,_,_,_,_,_,_,_,_,_,_,_,_,_,_,_,_,_,_,_,_,_,_,_,_,_,_,_,_,_,_,_,_,_,_,_,_,_,_,_,_], []⟩) rfl rfl rfl rfl ?_
      refine W.op (v := .slice none 0 0) (fr1 := ⟨[_,_,_,_,_,_,_,_,_,_,_,_,_,_,_,_,_,_,_,_,_,_,_, .slice none 0 0, _,_,_,_,_,_,_,_,_,_,_,_,_,_,_,_,_,_,_,_,_,_,_,_,_,_,_,_,_,_,_,_,_,_,_,_,_,_,_,_,_,_,_,_,_,_,_,_,_,_,_,_,_,_,_], []⟩) rfl rfl rfl rfl ?_
      refine W.op (v := .iface 37 (.int .i64 2)) (fr1 := ⟨[_,_,_,_,_,_,_,_,_,_,_,_,_,_,_,_,_,_,_,_,_,_,_,_, .iface 37 (.int .i64 2), _,_,_,_,_,_,_,_,_,_,_,_,_,_,_,_,_,_,_,_,_,_,_,_,_,_,_,_,_,_,_,_,_,_,_,_,_,_,_,_,_,_,_,_,_,_,_,_,_,_,_,_,_,_], []⟩) rfl rfl rfl rfl ?_
      refine W.op (v := .slice none 0 0) (fr1 := ⟨[_,_,_,_,_,_, .slice none 0 0, _,_,_,_,_,_,_,_,_,_,_,_,_,_,_,_,_,_,_,_,_,_,_,_,_,_,_,_,_,_,_,_,_,_,_,_,_,_,_,_,_,_,_,_,_,_,_,_,_,_,_,_,_,_,_,_,_,_,_,_,_,_,_,_,_,_,_,_,_,_,_,_], []⟩) rfl rfl rfl rfl ?_
      refine W.op (v := .iface 37 (.int .i64 2)) (fr1 := ⟨[_,_,_,_,_,_,_, .iface 37 (.int .i64 2), _,_,_,_,_,_,_,_,_,_,_,_,_,_,_,_,_,_,_,_,_,_,_,_,_,_,_,_,_,_,_,_,_,_,_,_,_,_,_,_,_,_,_,_,_,_,_,_,_,_,_,_,_,_,_,_,_,_,_,_,_,_,_,_,_,_,_,_,_,_,_], []⟩) rfl rfl rfl rfl ?_
      refine EndsOps.nil ?_
      refine Ends.seq ?_
      refine Ends.region ?_
      refine W.op (v := .string x) (fr1 := ⟨[_,_,_,_,_,_,_,_,_,_,_,_,_,_,_,_,_,_,_,_,_,_,_,_,_,_, .string x, _,_,_,_,_,_,_,_,_,_,_,_,_,_,_,_,_,_,_,_,_,_,_,_,_,_,_,_,_,_,_,_,_,_,_,_,_,_,_,_,_,_,_,_,_,_,_,_,_,_,_,_], []⟩) rfl rfl rfl rfl ?_
      refine W.op (v := .slice a21 l.length cq22) (fr1 := ⟨[_,_,_,_,_,_,_,_,_,_,_,_,_,_,_,_,_,_,_,_,_,_,_,_,_,_,_, .slice a21 l.length cq22, _,_,_,_,_,_,_,_,_,_,_,_,_,_,_,_,_,_,_,_,_,_,_,_,_,_,_,_,_,_,_,_,_,_,_,_,_,_,_,_,_,_,_,_,_,_,_,_,_,_,_], []⟩) rfl rfl rfl rfl ?_
      refine W.call (ar := [.string x, .slice a21 l.length cq22]) (X := .tuple ⟨[.slice none 0 0, .iface 37 (.int .i64 2)]⟩) (fr1 := ⟨[_,_,_,_,_,_,_,_,_,_,_,_,_,_,_,_,_,_,_,_,_,_,_,_,_,_,_,_, .tuple ⟨[.slice none 0 0, .iface 37 (.int .i64 2)]⟩, _,_,_,_,_,_,_,_,_,_,_,_,_,_,_,_,_,_,_,_,_,_,_,_,_,_,_,_,_,_,_,_,_,_,_,_,_,_,_,_,_,_,_,_,_,_,_,_,_,_], []⟩) hO129 rfl rfl rfl rfl (c52F x hx _ l _ _ _ _ _ _ h30 _ (H27.own hE131)) rfl ?_
      intro s132 hO133 hS134
      have hE135 := hE131.trans hS134
      refine W.op (v := .tuple ⟨[.slice none 0 0, .iface 37 (.int .i64 2)]⟩) (fr1 := ⟨[_,_,_,_,_,_,_,_,_,_,_,_,_,_,_,_,_,_,_,_,_,_,_,_,_, .tuple ⟨[.slice none 0 0, .iface 37 (.int .i64 2)]⟩, _,_,_,_,_,_,_,_,_,_,_,_,_,_,_,_,_,_,_,_,_,_,_,_,_,_,_,_,_,_,_,_,_,_,_,_,_,_,_,_,_,_,_,_,_,_,_,_,_,_,_,_,_], []⟩) rfl rfl rfl rfl ?_
      refine W.op (v := .slice none 0 0) (fr1 := ⟨[_,_,_,_,_,_,_,_,_,_,_,_,_,_,_,_,_,_,_,_,_,_,_,_,_,_,_,_,_, .slice none 0 0, _,_,_,_,_,_,_,_,_,_,_,_,_,_,_,_,_,_,_,_,_,_,_,_,_,_,_,_,_,_,_,_,_,_,_,_,_,_,_,_,_,_,_,_,_,_,_,_,_], []⟩) rfl rfl rfl rfl ?_
      refine W.op (v := .iface 37 (.int .i64 2)) (fr1 := ⟨[_,_,_,_,_,_,_,_,_,_,_,_,_,_,_,_,_,_,_,_,_,_,_,_,_,_,_,_,_,_, .iface 37 (.int .i64 2), _,_,_,_,_,_,_,_,_,_,_,_,_,_,_,_,_,_,_,_,_,_,_,_,_,_,_,_,_,_,_,_,_,_,_,_,_,_,_,_,_,_,_,_,_,_,_,_], []⟩) rfl rfl rfl rfl ?_
      refine W.op (v := .slice none 0 0) (fr1 := ⟨[_,_,_,_,_,_,_,_, .slice none 0 0, _,_,_,_,_,_,_,_,_,_,_,_,_,_,_,_,_,_,_,_,_,_,_,_,_,_,_,_,_,_,_,_,_,_,_,_,_,_,_,_,_,_,_,_,_,_,_,_,_,_,_,_,_,_,_,_,_,_,_,_,_,_,_,_,_,_,_,_,_,_], []⟩) rfl rfl rfl rfl ?_
      refine W.op (v := .iface 37 (.int .i64 2)) (fr1 := ⟨[_,_,_,_,_,_,_,_,_, .iface 37 (.int .i64 2), _,_,_,_,_,_,_,_,_,_,_,_,_,_,_,_,_,_,_,_,_,_,_,_,_,_,_,_,_,_,_,_,_,_,_,_,_,_,_,_,_,_,_,_,_,_,_,_,_,_,_,_,_,_,_,_,_,_,_,_,_,_,_,_,_,_,_,_,_], []⟩) rfl rfl rfl rfl ?_
      refine EndsOps.nil ?_
      refine Ends.seq ?_
      refine Ends.seq ?_
      refine Ends.region ?_
      refine W.op (v := .slice a21 l.length cq22) (fr1 := ⟨[_,_,_,_,_,_,_,_,_,_,_,_,_,_,_,_,_,_,_,_,_,_,_,_,_,_,_,_,_,_,_, .slice a21 l.length cq22, _,_,_,_,_,_,_,_,_,_,_,_,_,_,_,_,_,_,_,_,_,_,_,_,_,_,_,_,_,_,_,_,_,_,_,_,_,_,_,_,_,_,_,_,_,_,_], []⟩) rfl rfl rfl rfl ?_
      refine W.op (v := .slice al l.length cl) (fr1 := ⟨[_,_,_,_,_,_,_,_,_,_,_,_,_,_,_,_,_,_,_,_,_,_,_,_,_,_,_,_,_,_,_,_, .slice al l.length cl, _,_,_,_,_,_,_,_,_,_,_,_,_,_,_,_,_,_,_,_,_,_,_,_,_,_,_,_,_,_,_,_,_,_,_,_,_,_,_,_,_,_,_,_,_,_], []⟩) rfl rfl rfl rfl ?_
      refine W.call (ar := [.slice a21 l.length cq22, .slice al l.length cl]) (X := .bool true) (fr1 := ⟨[_,_,_,_,_,_,_,_,_,_,_,_,_,_,_,_,_,_,_,_,_,_,_,_,_,_,_,_,_,_,_,_,_, .bool true, _,_,_,_,_,_,_,_,_,_,_,_,_,_,_,_,_,_,_,_,_,_,_,_,_,_,_,_,_,_,_,_,_,_,_,_,_,_,_,_,_,_,_,_,_], []⟩) hO133 rfl rfl rfl rfl ((Q.c33 _ _ _ _ _ _ _ _ _ _ _ _ _ _ _ _ _ (H27.own hE135) (Hl.own hO133)).mono fun v _ _ g => g.trans (congrArg Value.bool (decide_eq_true rfl))) rfl ?_
      intro s136 hO137 hS138
      have hE139 := hE135.trans hS138
      refine W.op (v := .bool false) (fr1 := ⟨[_,_,_,_,_,_,_,_,_,_,_,_,_,_,_,_,_,_,_,_,_,_,_,_,_,_,_,_,_,_,_,_,_,_, .bool false, _,_,_,_,_,_,_,_,_,_,_,_,_,_,_,_,_,_,_,_,_,_,_,_,_,_,_,_,_,_,_,_,_,_,_,_,_,_,_,_,_,_,_,_], []⟩) rfl rfl rfl rfl ?_
      refine EndsOps.nil ?_
      refine Ends.condF rfl ?_
      refine Ends.skip ?_
      refine Ends.seq ?_
      refine Ends.seq ?_
      refine Ends.region ?_
      refine W.op (v := .slice al l.length cl) (fr1 := ⟨[_,_,_,_,_,_,_,_,_,_,_,_,_,_,_,_,_,_,_,_,_,_,_,_,_,_,_,_,_,_,_,_,_,_,_, .slice al l.length cl, _,_,_,_,_,_,_,_,_,_,_,_,_,_,_,_,_,_,_,_,_,_,_,_,_,_,_,_,_,_,_,_,_,_,_,_,_,_,_,_,_,_,_], []⟩) rfl rfl rfl rfl ?_
      refine W.op (v := .string x) (fr1 := ⟨[_,_,_,_,_,_,_,_,_,_,_,_,_,_,_,_,_,_,_,_,_,_,_,_,_,_,_,_,_,_,_,_,_,_,_,_, .string x, _,_,_,_,_,_,_,_,_,_,_,_,_,_,_,_,_,_,_,_,_,_,_,_,_,_,_,_,_,_,_,_,_,_,_,_,_,_,_,_,_,_], []⟩) rfl rfl rfl rfl ?_
      refine W.op (v := .int .i64 (((B x).length : Nat) : Int)) (fr1 := ⟨[_,_,_,_,_,_,_,_,_,_,_,_,_,_,_,_,_,_,_,_,_,_,_,_,_,_,_,_,_,_,_,_,_,_,_,_,_, .int .i64 (((B x).length : Nat) : Int), _,_,_,_,_,_,_,_,_,_,_,_,_,_,_,_,_,_,_,_,_,_,_,_,_,_,_,_,_,_,_,_,_,_,_,_,_,_,_,_,_], []⟩) rfl rfl rfl rfl ?_
      refine W.call (ar := [.slice al l.length cl, .int .i64 (((B x).length : Nat) : Int)]) (X := .bool false) (fr1 := ⟨[_,_,_,_,_,_,_,_,_,_,_,_,_,_,_,_,_,_,_,_,_,_,_,_,_,_,_,_,_,_,_,_,_,_,_,_,_,_, .bool false, _,_,_,_,_,_,_,_,_,_,_,_,_,_,_,_,_,_,_,_,_,_,_,_,_,_,_,_,_,_,_,_,_,_,_,_,_,_,_,_], []⟩) hO137 rfl rfl rfl rfl ((c23 _ _ _ _ _ _ _ _ (((B x).length : Nat) : Int) _ (Hl.own hO137)).mono fun v _ _ h => h.trans (congrArg Value.bool (decide_eq_false h30))) rfl ?_
      intro s140 hO141 hS142
      have hE143 := hE139.trans hS142
      refine W.op (v := .bool true) (fr1 := ⟨[_,_,_,_,_,_,_,_,_,_,_,_,_,_,_,_,_,_,_,_,_,_,_,_,_,_,_,_,_,_,_,_,_,_,_,_,_,_,_, .bool true, _,_,_,_,_,_,_,_,_,_,_,_,_,_,_,_,_,_,_,_,_,_,_,_,_,_,_,_,_,_,_,_,_,_,_,_,_,_,_], []⟩) rfl rfl rfl rfl ?_
      refine EndsOps.nil ?_
      refine Ends.condT rfl ?_
      refine Ends.seq ?_
      refine Ends.region ?_
      refine W.op (v := .iface 37 (.int .i64 2)) (fr1 := ⟨[_,_,_,_,_,_,_,_,_,_,_,_,_,_,_,_,_,_,_,_,_,_,_,_,_,_,_,_,_,_,_,_,_,_,_,_,_,_,_,_, .iface 37 (.int .i64 2), _,_,_,_,_,_,_,_,_,_,_,_,_,_,_,_,_,_,_,_,_,_,_,_,_,_,_,_,_,_,_,_,_,_,_,_,_,_], []⟩) rfl rfl rfl rfl ?_
      refine W.call (ar := [.iface 37 (.int .i64 2), .int .i64 2]) (X := .bool true) (fr1 := ⟨[_,_,_,_,_,_,_,_,_,_,_,_,_,_,_,_,_,_,_,_,_,_,_,_,_,_,_,_,_,_,_,_,_,_,_,_,_,_,_,_,_, .bool true, _,_,_,_,_,_,_,_,_,_,_,_,_,_,_,_,_,_,_,_,_,_,_,_,_,_,_,_,_,_,_,_,_,_,_,_,_], []⟩) hO141 rfl rfl rfl rfl (c24 2 2 (by decide) _) rfl ?_
      intro s144 hO145 hS146
      have hE147 := hE143.trans hS146
      refine W.op (v := .bool true) (fr1 := ⟨[_,_,_,_,_,_,_,_,_,_,_,_,_,_,_,_,_,_,_,_,_,_,_,_,_,_,_,_,_,_,_,_,_,_,_,_,_,_,_,_,_,_, .bool true, _,_,_,_,_,_,_,_,_,_,_,_,_,_,_,_,_,_,_,_,_,_,_,_,_,_,_,_,_,_,_,_,_,_,_,_], []⟩) rfl rfl rfl rfl ?_
      refine W.op (v := .iface 37 (.int .i64 2)) (fr1 := ⟨[_,_,_,_,_,_,_,_,_,_,_,_,_,_,_,_,_,_,_,_,_,_,_,_,_,_,_,_,_,_,_,_,_,_,_,_,_,_,_,_,_,_,_, .iface 37 (.int .i64 2), _,_,_,_,_,_,_,_,_,_,_,_,_,_,_,_,_,_,_,_,_,_,_,_,_,_,_,_,_,_,_,_,_,_,_], []⟩) rfl rfl rfl rfl ?_
      refine W.call (ar := [.iface 37 (.int .i64 2), .int .i64 2]) (X := .bool true) (fr1 := ⟨[_,_,_,_,_,_,_,_,_,_,_,_,_,_,_,_,_,_,_,_,_,_,_,_,_,_,_,_,_,_,_,_,_,_,_,_,_,_,_,_,_,_,_,_, .bool true, _,_,_,_,_,_,_,_,_,_,_,_,_,_,_,_,_,_,_,_,_,_,_,_,_,_,_,_,_,_,_,_,_,_], []⟩) hO145 rfl rfl rfl rfl (c24 2 2 (by decide) _) rfl ?_
      intro s148 hO149 hS150
      have hE151 := hE147.trans hS150
      refine W.op (v := .bool true) (fr1 := ⟨[_,_,_,_,_,_,_,_,_,_,_,_,_,_,_,_,_,_,_,_,_,_,_,_,_,_,_,_,_,_,_,_,_,_,_,_,_,_,_,_,_,_,_,_,_, .bool true, _,_,_,_,_,_,_,_,_,_,_,_,_,_,_,_,_,_,_,_,_,_,_,_,_,_,_,_,_,_,_,_,_], []⟩) rfl rfl rfl rfl ?_
      refine W.op (v := .bool true) (fr1 := ⟨[_,_,_,_,_,_,_,_,_,_,_,_,_,_,_,_,_,_,_,_,_,_,_,_,_,_,_,_,_,_,_,_,_,_,_,_,_,_,_,_,_,_,_,_,_,_, .bool true, _,_,_,_,_,_,_,_,_,_,_,_,_,_,_,_,_,_,_,_,_,_,_,_,_,_,_,_,_,_,_,_], []⟩) rfl rfl rfl rfl ?_
      refine W.op (v := .slice none 0 0) (fr1 := ⟨[_,_,_,_,_,_,_,_,_,_,_,_,_,_,_,_,_,_,_,_,_,_,_,_,_,_,_,_,_,_,_,_,_,_,_,_,_,_,_,_,_,_,_,_,_,_,_, .slice none 0 0, _,_,_,_,_,_,_,_,_,_,_,_,_,_,_,_,_,_,_,_,_,_,_,_,_,_,_,_,_,_,_], []⟩) rfl rfl rfl rfl ?_
      refine W.op (v := .int .i64 0) (fr1 := ⟨[_,_,_,_,_,_,_,_,_,_,_,_,_,_,_,_,_,_,_,_,_,_,_,_,_,_,_,_,_,_,_,_,_,_,_,_,_,_,_,_,_,_,_,_,_,_,_,_, .int .i64 0, _,_,_,_,_,_,_,_,_,_,_,_,_,_,_,_,_,_,_,_,_,_,_,_,_,_,_,_,_,_], []⟩) rfl rfl rfl rfl ?_
      refine W.op (v := .slice none 0 0) (fr1 := ⟨[_,_,_,_,_,_,_,_,_,_,_,_,_,_,_,_,_,_,_,_,_,_,_,_,_,_,_,_,_,_,_,_,_,_,_,_,_,_,_,_,_,_,_,_,_,_,_,_,_, .slice none 0 0, _,_,_,_,_,_,_,_,_,_,_,_,_,_,_,_,_,_,_,_,_,_,_,_,_,_,_,_,_], []⟩) rfl rfl rfl rfl ?_
      refine W.op (v := .int .i64 0) (fr1 := ⟨[_,_,_,_,_,_,_,_,_,_,_,_,_,_,_,_,_,_,_,_,_,_,_,_,_,_,_,_,_,_,_,_,_,_,_,_,_,_,_,_,_,_,_,_,_,_,_,_,_,_, .int .i64 0, _,_,_,_,_,_,_,_,_,_,_,_,_,_,_,_,_,_,_,_,_,_,_,_,_,_,_,_], []⟩) rfl rfl rfl rfl ?_
      refine W.op (v := .int .i64 0) (fr1 := ⟨[_,_,_,_,_,_,_,_,_,_,_,_,_,_,_,_,_,_,_,_,_,_,_,_,_,_,_,_,_,_,_,_,_,_,_,_,_,_,_,_,_,_,_,_,_,_,_,_,_,_,_, .int .i64 0, _,_,_,_,_,_,_,_,_,_,_,_,_,_,_,_,_,_,_,_,_,_,_,_,_,_,_], []⟩) rfl rfl rfl rfl ?_
      refine W.op (v := .bool true) (fr1 := ⟨[_,_,_,_,_,_,_,_,_,_,_,_,_,_,_,_,_,_,_,_,_,_,_,_,_,_,_,_,_,_,_,_,_,_,_,_,_,_,_,_,_,_,_,_,_,_,_,_,_,_,_,_, .bool true, _,_,_,_,_,_,_,_,_,_,_,_,_,_,_,_,_,_,_,_,_,_,_,_,_,_], []⟩) rfl rfl rfl rfl ?_
      refine W.op (v := .bool true) (fr1 := ⟨[_,_,_,_,_,_,_,_,_,_,_,_,_,_,_,_,_,_,_,_,_,_,_,_,_,_,_,_,_,_,_,_,_,_,_,_,_,_,_,_,_,_,_,_,_,_,_,_,_,_,_,_,_, .bool true, _,_,_,_,_,_,_,_,_,_,_,_,_,_,_,_,_,_,_,_,_,_,_,_,_], []⟩) rfl rfl rfl rfl ?_
      refine W.op (v := .bool true) (fr1 := ⟨[_,_,_,_, .bool true, _,_,_,_,_,_,_,_,_,_,_,_,_,_,_,_,_,_,_,_,_,_,_,_,_,_,_,_,_,_,_,_,_,_,_,_,_,_,_,_,_,_,_,_,_,_,_,_,_,_,_,_,_,_,_,_,_,_,_,_,_,_,_,_,_,_,_,_,_,_,_,_,_,_], []⟩) rfl rfl rfl rfl ?_
      refine EndsOps.nil ?_
      refine Ends.ret ?_
      exact ⟨rfl, rfl, hO149, by
        show Value.bool true = Value.bool true
        rfl⟩
end Go.Ev.R1

