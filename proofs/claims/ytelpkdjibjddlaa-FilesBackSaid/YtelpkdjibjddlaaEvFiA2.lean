/-
  EV: contracts of the first seat's functions.
-/
import Derived.Test.YtelpkdjibjddlaaEvFiA1
namespace Go.Ev.R1
open Go Go.Ev Go.Proofs
set_option maxRecDepth 10000
theorem c80 (al : Option Addr) (l : List Fl) (cl Nl ol : Nat) (vl : List Value) (yl zl : Nat) (x : ByteArray) (s : St) (Hl : Sl Fl.cells 2 s.t s.next al l Nl ol vl yl zl)  : EndsPure R1.T 80 [.slice al l.length cl,.string x] s (fun v _ _ => v = .int .i64 (placeS l x)) := by
  refine EndsPure.of (rs := [4]) (fr0 := ⟨[.slice al l.length cl,.string x,undef,undef,undef,undef,undef,undef],[]⟩) (by kernel_rfl : R1.T.fn 80 = some ⟨8,(Try.f80.body).getD .skip,[.tmp 4]⟩) rfl ?_
  have hO0 := Own.refl s
  have Ml := Hl.small
  simp only [Try.f80,Option.getD]
  refine Ends.seq ?_
  refine Ends.region ?_
  obtain ⟨N1,hN2⟩ : ∃ N,N = s.next := ⟨_,rfl⟩
  refine W.new (N := N1) (vs := [.string x]) (fr1 := ⟨[_,_,_,.pointer (some ⟨N1,0,none⟩),_,_,_,_],[]⟩) hO0 hN2 rfl (p_box rfl) rfl rfl ?_
  intro s3 hO4 hS5 r6 hB7
  refine W.op (v := .int .i64 0) (fr1 := ⟨[_,_,_,_,.int .i64 0,_,_,_],[]⟩) rfl rfl rfl rfl ?_
  refine EndsOps.nil ?_
  refine Ends.seq ?_
  refine Ends.region ?_
  refine W.op (v := .slice al l.length cl) (fr1 := ⟨[_,_,_,_,_,.slice al l.length cl,_,_],[]⟩) rfl rfl rfl rfl ?_
  refine W.op (v := .func (.func 95) ⟨[]⟩ ⟨[.pointer (some ⟨N1,0,none⟩)]⟩) (fr1 := ⟨[_,_,_,_,_,_,.func (.func 95) ⟨[]⟩ ⟨[.pointer (some ⟨N1,0,none⟩)]⟩,_],[]⟩) rfl rfl rfl rfl ?_
  refine W.call (ar := [.slice al l.length cl,.func (.func 95) ⟨[]⟩ ⟨[.pointer (some ⟨N1,0,none⟩)]⟩]) (X := .int .i64 (placeS l x)) (fr1 := ⟨[_,_,_,_,_,_,_,.int .i64 (placeS l x)],[]⟩) hO4 rfl rfl rfl rfl (c94 _ _ _ _ _ _ _ _ N1 0 x _ (Hl.own hO4) r6) rfl ?_
  intro s8 hO9 hS10
  have r11 := r6.own hS10
  refine W.op (v := .int .i64 (placeS l x)) (fr1 := ⟨[_,_,_,_,.int .i64 (placeS l x),_,_,_],[]⟩) rfl rfl rfl rfl ?_
  refine EndsOps.nil ?_
  refine Ends.ret ?_
  exact ⟨rfl,rfl,hO9,by
    show Value.int .i64 (placeS l x) = Value.int .i64 (placeS l x)
    rfl⟩
end Go.Ev.R1

