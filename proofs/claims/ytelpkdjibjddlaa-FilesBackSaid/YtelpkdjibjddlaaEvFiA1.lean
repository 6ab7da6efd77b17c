/-
  EV: contracts of the first seat's functions.
-/
import Derived.Test.YtelpkdjibjddlaaEvC1
import Derived.Test.YtelpkdjibjddlaaEvR1
import Derived.Test.YtelpkdjibjddlaaEvFiles
namespace Go.Ev.R1
open Go Go.Ev Go.Proofs
set_option maxRecDepth 10000
theorem c95 (f : Fl) (Nc zc : Nat) (x : ByteArray) (s : St) (hr : Row s.t s.next Nc [.string x] 9 zc)  : EndsPure R1.T 95 [.agg ⟨[.string f.nm,.string f.tx]⟩,.pointer (some ⟨Nc,0,none⟩)] s (fun v _ _ => v = .bool (decide (B f.nm = B x))) := by
  refine EndsPure.of (rs := [3]) (fr0 := ⟨[.agg ⟨[.string f.nm,.string f.tx]⟩,.pointer (some ⟨Nc,0,none⟩),undef,undef,undef,undef,undef,undef],[]⟩) (by kernel_rfl : R1.T.fn 95 = some ⟨8,(Try.f95.body).getD .skip,[.tmp 3]⟩) rfl ?_
  have hO0 := Own.refl s
  simp only [Try.f95,Option.getD]
  refine Ends.seq ?_
  refine Ends.region ?_
  obtain ⟨N1,hN2⟩ : ∃ N,N = s.next := ⟨_,rfl⟩
  refine W.new (N := N1) (vs := [.string f.nm,.string f.tx]) (fr1 := ⟨[_,_,.pointer (some ⟨N1,0,none⟩),_,_,_,_,_],[]⟩) hO0 hN2 rfl (p_box rfl) rfl rfl ?_
  intro s3 hO4 hS5 r6 hB7
  refine W.op (v := .bool false) (fr1 := ⟨[_,_,_,.bool false,_,_,_,_],[]⟩) rfl rfl rfl rfl ?_
  refine EndsOps.nil ?_
  refine Ends.seq ?_
  refine Ends.region ?_
  refine W.op (v := .pointer (some ⟨N1,0,none⟩)) (fr1 := ⟨[_,_,_,_,.pointer (some ⟨N1,0,none⟩),_,_,_],[]⟩) rfl rfl rfl rfl ?_
  refine W.op (v := .string f.nm) (fr1 := ⟨[_,_,_,_,_,.string f.nm,_,_],[]⟩) rfl (p_load1 r6 rfl rfl rfl rfl) rfl rfl ?_
  refine W.op (v := .string x) (fr1 := ⟨[_,_,_,_,_,_,.string x,_],[]⟩) rfl (p_load1 (hr.own hO4) rfl rfl rfl rfl) rfl rfl ?_
  by_cases h8 : B f.nm = B x
  · skip
    refine W.op (v := .bool true) (fr1 := ⟨[_,_,_,_,_,_,_,.bool true],[]⟩) rfl (p_bin (seqT h8)) rfl rfl ?_
    refine W.op (v := .bool true) (fr1 := ⟨[_,_,_,.bool true,_,_,_,_],[]⟩) rfl rfl rfl rfl ?_
    refine EndsOps.nil ?_
    refine Ends.ret ?_
    exact ⟨rfl,rfl,hO4,by
      show Value.bool true = .bool (decide (B f.nm = B x))
      simp only [decide_true,decide_false, *]⟩
  · skip
    refine W.op (v := .bool false) (fr1 := ⟨[_,_,_,_,_,_,_,.bool false],[]⟩) rfl (p_bin (seqF h8)) rfl rfl ?_
    refine W.op (v := .bool false) (fr1 := ⟨[_,_,_,.bool false,_,_,_,_],[]⟩) rfl rfl rfl rfl ?_
    refine EndsOps.nil ?_
    refine Ends.ret ?_
    exact ⟨rfl,rfl,hO4,by
      show Value.bool false = .bool (decide (B f.nm = B x))
      simp only [decide_true,decide_false, *]⟩
theorem c94 (al : Option Addr) (l : List Fl) (cl Nl ol : Nat) (vl : List Value) (yl zl : Nat) (Nc zc : Nat) (x : ByteArray) (s : St) (Hl : Sl Fl.cells 2 s.t s.next al l Nl ol vl yl zl) (hr : Row s.t s.next Nc [.string x] 9 zc)  : EndsPure R1.T 94 [.slice al l.length cl,.func (.func 95) ⟨[]⟩ ⟨[.pointer (some ⟨Nc,0,none⟩)]⟩] s (fun v _ _ => v = .int .i64 (placeS l x)) := by
  refine EndsPure.of (rs := [4]) (fr0 := ⟨[.slice al l.length cl,.func (.func 95) ⟨[]⟩ ⟨[.pointer (some ⟨Nc,0,none⟩)]⟩,undef,undef,undef,undef,undef,undef,undef,undef,undef,undef,undef,undef,undef,undef,undef,undef,undef],[]⟩) (by kernel_rfl : R1.T.fn 94 = some ⟨19,(Try.f94.body).getD .skip,[.tmp 4]⟩) rfl ?_
  have hO0 := Own.refl s
  have Ml := Hl.small
  simp only [Try.f94,Option.getD]
  refine Ends.seq ?_
  refine Ends.region ?_
  refine W.op (v := .int .i64 0) (fr1 := ⟨[_,_,_,_,.int .i64 0,_,_,_,_,_,_,_,_,_,_,_,_,_,_],[]⟩) rfl rfl rfl rfl ?_
  refine EndsOps.nil ?_
  refine Ends.seq ?_
  refine Ends.seq ?_
  refine Ends.region ?_
  refine W.op (v := .slice al l.length cl) (fr1 := ⟨[_,_,_,_,_,_,.slice al l.length cl,_,_,_,_,_,_,_,_,_,_,_,_],[]⟩) rfl rfl rfl rfl ?_
  refine W.op (v := .int .i64 ((l.length : Nat) : Int)) (fr1 := ⟨[_,_,_,_,_,_,_,.int .i64 ((l.length : Nat) : Int),_,_,_,_,_,_,_,_,_,_,_],[]⟩) rfl rfl rfl rfl ?_
  refine W.op (v := .int .i64 0) (fr1 := ⟨[_,_,_,_,_,_,_,_,.int .i64 0,_,_,_,_,_,_,_,_,_,_],[]⟩) rfl rfl rfl rfl ?_
  refine EndsOps.nil ?_
  refine W.block ?_
  refine Ends.loopInv (fun d fr s1 => ∃ (i : Nat) (j4 j5 j9 j10 j11 j12 j13 j14 j15 j16 j17 j18 : Value),fr = ⟨[.slice al l.length cl,.func (.func 95) ⟨[]⟩ ⟨[.pointer (some ⟨Nc,0,none⟩)]⟩,undef,undef,j4,j5,.slice al l.length cl,.int .i64 ((l.length : Nat) : Int),.int .i64 ((i : Nat) : Int),j9,j10,j11,j12,j13,j14,j15,j16,j17,j18],[]⟩ ∧ Own s s1 ∧ d = l.length - i ∧ (i ≤ l.length) ∧ (NoB (fun f => B f.nm = B x) l i)) ?_ _ _ _ ⟨0,_,_,_,_,_,_,_,_,_,_,_,_,rfl,hO0,rfl,Nat.zero_le _,NoB.zero⟩
  rintro d _ s1 ⟨i,j4,j5,j9,j10,j11,j12,j13,j14,j15,j16,j17,j18,rfl,hO2,hd3,hi,hn⟩
  refine Ends.seq ?_
  refine Ends.region ?_
  by_cases h4 : ((i : Nat) : Int) < ((l.length : Nat) : Int)
  · skip
    refine W.op (v := .bool true) (fr1 := ⟨[_,_,_,_,_,_,_,_,_,.bool true,_,_,_,_,_,_,_,_,_],[]⟩) rfl (p_bin (ltT h4)) rfl rfl ?_
    refine EndsOps.nil ?_
    refine Ends.seq ?_
    refine Ends.condT rfl ?_
    refine Ends.skip ?_
    refine Ends.seq ?_
    refine W.block ?_
    refine Ends.seq ?_
    refine Ends.region ?_
    refine W.op (v := .int .i64 ((i : Nat) : Int)) (fr1 := ⟨[_,_,_,_,_,_,_,_,_,_,.int .i64 ((i : Nat) : Int),_,_,_,_,_,_,_,_],[]⟩) rfl rfl rfl rfl ?_
    refine W.op (v := .int .i64 ((i : Nat) : Int)) (fr1 := ⟨[_,_,_,_,_,.int .i64 ((i : Nat) : Int),_,_,_,_,_,_,_,_,_,_,_,_,_],[]⟩) rfl rfl rfl rfl ?_
    refine EndsOps.nil ?_
    refine Ends.seq ?_
    refine Ends.region ?_
    refine W.op (v := .func (.func 95) ⟨[]⟩ ⟨[.pointer (some ⟨Nc,0,none⟩)]⟩) (fr1 := ⟨[_,_,_,_,_,_,_,_,_,_,_,.func (.func 95) ⟨[]⟩ ⟨[.pointer (some ⟨Nc,0,none⟩)]⟩,_,_,_,_,_,_,_],[]⟩) rfl rfl rfl rfl ?_
    refine W.op (v := .slice al l.length cl) (fr1 := ⟨[_,_,_,_,_,_,_,_,_,_,_,_,.slice al l.length cl,_,_,_,_,_,_],[]⟩) rfl rfl rfl rfl ?_
    refine W.op (v := .int .i64 ((i : Nat) : Int)) (fr1 := ⟨[_,_,_,_,_,_,_,_,_,_,_,_,_,.int .i64 ((i : Nat) : Int),_,_,_,_,_],[]⟩) rfl rfl rfl rfl ?_
    obtain ⟨e5,he6⟩ := ex_at (l := l) (i := i) (by omega)
    refine W.op (v := .pointer (some ⟨Nl,ol + i * 2,none⟩)) (fr1 := ⟨[_,_,_,_,_,_,_,_,_,_,_,_,_,_,.pointer (some ⟨Nl,ol + i * 2,none⟩),_,_,_,_],[]⟩) rfl (p_ix (Sl.ix Hl rfl rfl he6 _)) rfl rfl ?_
    refine W.op (v := .agg ⟨[.string e5.nm,.string e5.tx]⟩) (fr1 := ⟨[_,_,_,_,_,_,_,_,_,_,_,_,_,_,_,.agg ⟨[.string e5.nm,.string e5.tx]⟩,_,_,_],[]⟩) rfl (p_loadA (Sl.row' (Hl.own hO2) he6) rfl rfl rfl rfl ((Hl.own hO2).get _ _ he6)) rfl rfl ?_
    by_cases h7 : B e5.nm = B x
    · skip
      refine W.callC (ar := [.agg ⟨[.string e5.nm,.string e5.tx]⟩,.pointer (some ⟨Nc,0,none⟩)]) (X := .bool true) (fr1 := ⟨[_,_,_,_,_,_,_,_,_,_,_,_,_,_,_,_,.bool true,_,_],[]⟩) hO2 rfl rfl rfl rfl ((c95 e5 Nc zc x _ (hr.own hO2)).mono fun v _ _ h => h.trans (congrArg Value.bool (decide_eq_true h7))) rfl ?_
      intro s8 hO9 hS10
      refine EndsOps.nil ?_
      refine Ends.condT rfl ?_
      refine Ends.seq ?_
      refine Ends.region ?_
      refine W.op (v := .int .i64 ((i : Nat) : Int)) (fr1 := ⟨[_,_,_,_,_,_,_,_,_,_,_,_,_,_,_,_,_,.int .i64 ((i : Nat) : Int),_],[]⟩) rfl rfl rfl rfl ?_
      refine W.op (v := .int .i64 ((i : Nat) : Int)) (fr1 := ⟨[_,_,_,_,.int .i64 ((i : Nat) : Int),_,_,_,_,_,_,_,_,_,_,_,_,_,_],[]⟩) rfl rfl rfl rfl ?_
      refine EndsOps.nil ?_
      refine Ends.ret ?_
      exact ⟨rfl,rfl,hO9,by
        show Value.int .i64 ((i : Nat) : Int) = Value.int .i64 (placeS l x)
        rw [place_at hn he6 h7]⟩
    · skip
      refine W.callC (ar := [.agg ⟨[.string e5.nm,.string e5.tx]⟩,.pointer (some ⟨Nc,0,none⟩)]) (X := .bool false) (fr1 := ⟨[_,_,_,_,_,_,_,_,_,_,_,_,_,_,_,_,.bool false,_,_],[]⟩) hO2 rfl rfl rfl rfl ((c95 e5 Nc zc x _ (hr.own hO2)).mono fun v _ _ h => h.trans (congrArg Value.bool (decide_eq_false h7))) rfl ?_
      intro s11 hO12 hS13
      refine EndsOps.nil ?_
      refine Ends.condF rfl ?_
      refine Ends.skip ?_
      refine Ends.region ?_
      refine W.op (v := .int .i64 ((i + 1 : Nat) : Int)) (fr1 := ⟨[_,_,_,_,_,_,_,_,_,_,_,_,_,_,_,_,_,_,.int .i64 ((i + 1 : Nat) : Int)],[]⟩) rfl (p_bin (addI (by omega) (by omega) (by omega))) rfl rfl ?_
      refine W.op (v := .int .i64 ((i + 1 : Nat) : Int)) (fr1 := ⟨[_,_,_,_,_,_,_,_,.int .i64 ((i + 1 : Nat) : Int),_,_,_,_,_,_,_,_,_,_],[]⟩) rfl rfl rfl rfl ?_
      refine EndsOps.nil ?_
      exact ⟨_,(by omega),i + 1,_,_,_,_,_,_,_,_,_,_,_,_,rfl,hO12,rfl,by omega,NoB.step hn he6 h7⟩
  · skip
    refine W.op (v := .bool false) (fr1 := ⟨[_,_,_,_,_,_,_,_,_,.bool false,_,_,_,_,_,_,_,_,_],[]⟩) rfl (p_bin (ltF h4)) rfl rfl ?_
    refine EndsOps.nil ?_
    refine Ends.seq ?_
    refine Ends.condF rfl ?_
    refine Ends.exit ?_
    refine W.outT rfl ?_
    refine Ends.seq ?_
    refine Ends.region ?_
    refine W.op (v := .int .i64 (-1)) (fr1 := ⟨[_,_,_,_,.int .i64 (-1),_,_,_,_,_,_,_,_,_,_,_,_,_,_],[]⟩) rfl rfl rfl rfl ?_
    refine EndsOps.nil ?_
    refine Ends.ret ?_
    exact ⟨rfl,rfl,hO2,by
      show Value.int .i64 (-1) = Value.int .i64 (placeS l x)
      rw [place_none hn (by omega)]⟩
end Go.Ev.R1

