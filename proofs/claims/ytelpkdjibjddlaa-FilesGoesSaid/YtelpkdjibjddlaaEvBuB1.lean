/-
  EV: contracts of the first seat's functions.
-/
import Derived.Test.YtelpkdjibjddlaaEvBuA1
namespace Go.Ev.R1
open Go Go.Ev Go.Proofs
set_option maxRecDepth 10000
theorem c90 (N : Nat) (s0 s : St) (hO0 : Own s0 s) (x : List UInt8) (hB : Bd 112 5 s0.next s.t s.next N x) : EndsOn R1.T 90 [.pointer (some ⟨N,0,none⟩)] s0 s (fun _ t n => (∃ v,Row t n N [.pointer (some ⟨N,0,none⟩),v] 112 0 ∧ OL byteCell 1 5 s0.next t n v x ∧ (x = [] → v = .slice none 0 0)) ∧ ∀ M vs e hi,Row s.t s.next M vs e hi → (fun e => decide (e = 112)) e = false → Row t n M vs e hi) := by
  obtain ⟨hlo,p,v,hr,hp,hol,hv⟩ := hB
  rcases hp with rfl | rfl
  · exact (c90a N v s0 s hO0 hlo hr s0.next x hol).mono fun _ t n h => ⟨⟨v,h.1,h.2.1,hv⟩,h.2.2⟩
  · exact (c90b N v s0 s hO0 hlo hr s0.next x hol).mono fun _ t n h => ⟨⟨v,h.1,h.2.1,hv⟩,h.2.2⟩
theorem c70 (N : Nat) (x : List UInt8) (y : ByteArray) (hlen : x.length + (B y).length ≤ 140737488355328) (s0 s : St) (hO0 : Own s0 s) (hB : Bd 112 5 s0.next s.t s.next N x) : EndsOn R1.T 70 [.pointer (some ⟨N,0,none⟩),.string y] s0 s (fun w t n => w = .tuple ⟨[.int .i64 (((B y).length : Nat) : Int),.nilIface]⟩ ∧ Bd 112 5 s0.next t n N (x ++ B y) ∧ ∀ M vs e hi,Row s.t s.next M vs e hi → (fun e => decide (e = 112 ∨ e = 5)) e = false → Row t n M vs e hi) := by
  refine EndsOn.of (rs := [4,5]) (fr0 := ⟨[.pointer (some ⟨N,0,none⟩),.string y,undef,undef,undef,undef,undef,undef,undef,undef,undef,undef,undef,undef,undef,undef,undef,undef,undef],[]⟩) (by kernel_rfl : R1.T.fn 70 = some ⟨19,(Try.f70.body).getD .skip,[.tmp 4,.tmp 5]⟩) rfl hO0 ?_
  have hlo := hB.1
  simp only [Try.f70,Option.getD]
  refine Ends.seq ?_
  refine Ends.region ?_
  refine W.op (v := .int .i64 0) (fr1 := ⟨[_,_,_,_,.int .i64 0,_,_,_,_,_,_,_,_,_,_,_,_,_,_],[]⟩) rfl rfl rfl rfl ?_
  refine W.op (v := .nilIface) (fr1 := ⟨[_,_,_,_,_,.nilIface,_,_,_,_,_,_,_,_,_,_,_,_,_],[]⟩) rfl rfl rfl rfl ?_
  refine EndsOps.nil ?_
  refine Ends.seq ?_
  refine Ends.region ?_
  refine W.op (v := .pointer (some ⟨N,0,none⟩)) (fr1 := ⟨[_,_,_,_,_,_,.pointer (some ⟨N,0,none⟩),_,_,_,_,_,_,_,_,_,_,_,_],[]⟩) rfl rfl rfl rfl ?_
  refine W.callOn (ar := [.pointer (some ⟨N,0,none⟩)]) (fF := fun v1 => ⟨[_,_,_,_,_,_,_,v1,_,_,_,_,_,_,_,_,_,_,_],[]⟩) rfl rfl rfl rfl (c90 N s0 _ hO0 x hB) (fun _ => rfl) ?_
  intro v1 s2 hR5 hO3 hn4
  have nx6 : s.next ≤ s2.next := by have := hn4; omega
  obtain ⟨⟨w7,r8,hol9,hv⟩,hq10⟩ := hR5
  have hQ0 : Oth (fun e => decide (e = 112 ∨ e = 5)) s s2 := fun M vs e hi r hx => hq10 M vs e hi r (by simp at hx ⊢; exact hx.1)
  refine EndsOps.nil ?_
  refine Ends.seq ?_
  refine Ends.region ?_
  refine W.op (v := .pointer (some ⟨N,0,none⟩)) (fr1 := ⟨[_,_,_,_,_,_,_,_,.pointer (some ⟨N,0,none⟩),_,_,_,_,_,_,_,_,_,_],[]⟩) rfl rfl rfl rfl ?_
  refine W.op (v := .pointer (some ⟨N,0,none⟩)) (fr1 := ⟨[_,_,_,_,_,_,_,_,_,.pointer (some ⟨N,0,none⟩),_,_,_,_,_,_,_,_,_],[]⟩) rfl rfl rfl rfl ?_
  refine W.op (v := .pointer (some ⟨N,0,none⟩)) (fr1 := ⟨[_,_,_,_,_,_,_,_,_,_,.pointer (some ⟨N,0,none⟩),_,_,_,_,_,_,_,_],[]⟩) rfl rfl rfl rfl ?_
  refine W.op (v := .pointer (some ⟨N,1,none⟩)) (fr1 := ⟨[_,_,_,_,_,_,_,_,_,_,_,.pointer (some ⟨N,1,none⟩),_,_,_,_,_,_,_],[]⟩) rfl rfl rfl rfl ?_
  refine W.op (v := w7) (fr1 := ⟨[_,_,_,_,_,_,_,_,_,_,_,_,w7,_,_,_,_,_,_],[]⟩) rfl (p_load1 r8 rfl rfl rfl rfl) rfl rfl ?_
  refine W.op (v := .string y) (fr1 := ⟨[_,_,_,_,_,_,_,_,_,_,_,_,_,.string y,_,_,_,_,_],[]⟩) rfl rfl rfl rfl ?_
  refine W.appendStr (X := fun e => decide (e = 5)) (l := x) (x := y) (fF := fun v11 => ⟨[_,_,_,_,_,_,_,_,_,_,_,_,_,_,v11,_,_,_,_],[]⟩) app110 hO3 (by decide) hol9 hv rfl rfl rfl rfl (by rw [Nat.mul_one]; exact hlen) (fun _ => rfl) ?_ (by decide)
  intro v11 s12 hO13 hnx14 hq15 hol16 hv1
  have nx17 : s.next ≤ s12.next := by have := hnx14; omega
  have r18 := hq15 _ _ _ _ r8 (by decide)
  have hQ19 := hQ0.trans (Oth.weak hq15 fun e hx => by simp at hx ⊢; exact hx.2)
  obtain ⟨a20,c21,N22,v23,y24,z25,rfl,H26,lo27,C28⟩ := hol16.sl (fun _ => rfl)
  have sm_a20 := H26.small
  refine W.op (v := .pointer (some ⟨N,0,none⟩)) (fr1 := ⟨[_,_,_,_,_,_,_,_,_,_,_,_,_,_,_,.pointer (some ⟨N,0,none⟩),_,_,_],[]⟩) rfl rfl rfl rfl ?_
  refine W.op (v := .pointer (some ⟨N,1,none⟩)) (fr1 := ⟨[_,_,_,_,_,_,_,_,_,_,_,_,_,_,_,_,.pointer (some ⟨N,1,none⟩),_,_],[]⟩) rfl rfl rfl rfl ?_
  refine W.store2 (cs := [.slice a20 ((x ++ B y).length) c21]) (vs' := [.pointer (some ⟨N,0,none⟩),.slice a20 ((x ++ B y).length) c21]) (fr1 := ⟨[_,_,_,_,_,_,_,_,_,_,_,_,_,_,_,_,_,_,_],[]⟩) hO13 r18 hlo rfl rfl rfl rfl (by kernel_rfl) (by simp) (by simp [END,oneCell]) rfl rfl ?_
  intro s29 hO30 hn31 hu32 r33 hX34
  have nx35 : s.next ≤ s29.next := by have := hn31; omega
  have hQ36 := hQ19.upd r18 (by decide) hn31 hu32
  have hol37 := hol16.oth ((Oth.refl (fun e => decide (e = 112)) _).upd r18 (by decide) hn31 hu32) (by decide)
  refine EndsOps.nil ?_
  refine Ends.seq ?_
  refine Ends.region ?_
  refine W.op (v := .string y) (fr1 := ⟨[_,_,_,_,_,_,_,_,_,_,_,_,_,_,_,_,_,.string y,_],[]⟩) rfl rfl rfl rfl ?_
  refine W.op (v := .int .i64 (((B y).length : Nat) : Int)) (fr1 := ⟨[_,_,_,_,_,_,_,_,_,_,_,_,_,_,_,_,_,_,.int .i64 (((B y).length : Nat) : Int)],[]⟩) rfl rfl rfl rfl ?_
  refine W.op (v := .int .i64 (((B y).length : Nat) : Int)) (fr1 := ⟨[_,_,_,_,.int .i64 (((B y).length : Nat) : Int),_,_,_,_,_,_,_,_,_,_,_,_,_,_],[]⟩) rfl rfl rfl rfl ?_
  refine W.op (v := .nilIface) (fr1 := ⟨[_,_,_,_,_,.nilIface,_,_,_,_,_,_,_,_,_,_,_,_,_],[]⟩) rfl rfl rfl rfl ?_
  refine EndsOps.nil ?_
  refine Ends.ret ?_
  exact ⟨rfl,rfl,⟨hO30,nx35⟩,⟨rfl,⟨hlo,_,_,r33,.inr rfl,hol37,hv1⟩,hQ36⟩⟩
end Go.Ev.R1

