/-
  EV: contracts of the first seat's functions.
-/
import Derived.Test.YtelpkdjibjddlaaEvShB1
import Derived.Test.YtelpkdjibjddlaaEvDrawn
set_option linter.unusedSimpArgs false
set_option linter.unusedVariables false
namespace Go.Ev.R1
open Go Go.Ev Go.Proofs
set_option maxRecDepth 10000
theorem ptrNe {c : Bool} {N : Nat} : binop R1.T .neq 109 c (.pointer (some ⟨N,0,none⟩)) (.pointer (some ⟨N,0,none⟩)) = some (.bool false) := by
  have e : binop R1.T .neq 109 c (.pointer (some ⟨N,0,none⟩)) (.pointer (some ⟨N,0,none⟩)) = (equalF R1.T 50 109 (.pointer (some ⟨N,0,none⟩)) (.pointer (some ⟨N,0,none⟩))).map fun b => Value.bool (!b) := rfl
  have e2 : equalF R1.T 50 109 (.pointer (some ⟨N,0,none⟩)) (.pointer (some ⟨N,0,none⟩)) = (if N = N then some ((0 : Nat) == 0) else none) := by kernel_rfl
  rw [e,e2,if_pos rfl]; rfl
theorem zero5 : R1.T.zero 5 = some (.int .u8 0) := by kernel_rfl
theorem zero112 : R1.T.zero 112 = some (.agg ⟨[.pointer none,.slice none 0 0]⟩) := by kernel_rfl
theorem app110 : AppOk R1.T 110 9 5 1 1 := ⟨by kernel_rfl,by kernel_rfl,by kernel_rfl,by kernel_rfl,⟨_,zero5,rfl⟩,by decide,by decide⟩
theorem c90a (N : Nat) (v : Value) (s0 s : St) (hO0 : Own s0 s) (hlo : s0.next ≤ N) (hr : Row s.t s.next N [.pointer none,v] 112 0) (lo : Nat) (x : List UInt8) (hol : OL byteCell 1 5 lo s.t s.next v x) : EndsOn R1.T 90 [.pointer (some ⟨N,0,none⟩)] s0 s (fun _ t n => Row t n N [.pointer (some ⟨N,0,none⟩),v] 112 0 ∧ OL byteCell 1 5 lo t n v x ∧ ∀ M vs e hi,Row s.t s.next M vs e hi → (fun e => decide (e = 112)) e = false → Row t n M vs e hi) := by
  refine EndsOn.of (rs := []) (fr0 := ⟨[.pointer (some ⟨N,0,none⟩),undef,undef,undef,undef,undef,undef,undef,undef,undef,undef,undef,undef,undef,undef,undef,undef,undef,undef,undef],[]⟩) (by kernel_rfl : R1.T.fn 90 = some ⟨20,(Try.f90.body).getD .skip,[]⟩) rfl hO0 ?_
  simp only [Try.f90,Option.getD]
  refine Ends.seq ?_
  refine Ends.region ?_
  refine W.op (v := .pointer (some ⟨N,0,none⟩)) (fr1 := ⟨[_,_,.pointer (some ⟨N,0,none⟩),_,_,_,_,_,_,_,_,_,_,_,_,_,_,_,_,_],[]⟩) rfl rfl rfl rfl ?_
  refine W.op (v := .pointer (some ⟨N,0,none⟩)) (fr1 := ⟨[_,_,_,.pointer (some ⟨N,0,none⟩),_,_,_,_,_,_,_,_,_,_,_,_,_,_,_,_],[]⟩) rfl rfl rfl rfl ?_
  refine W.op (v := .pointer (some ⟨N,0,none⟩)) (fr1 := ⟨[_,_,_,_,.pointer (some ⟨N,0,none⟩),_,_,_,_,_,_,_,_,_,_,_,_,_,_,_],[]⟩) rfl rfl rfl rfl ?_
  refine W.op (v := .pointer none) (fr1 := ⟨[_,_,_,_,_,.pointer none,_,_,_,_,_,_,_,_,_,_,_,_,_,_],[]⟩) rfl (p_load1 hr rfl rfl rfl rfl) rfl rfl ?_
  refine W.op (v := .bool true) (fr1 := ⟨[_,_,_,_,_,_,.bool true,_,_,_,_,_,_,_,_,_,_,_,_,_],[]⟩) rfl rfl rfl rfl ?_
  refine EndsOps.nil ?_
  refine Ends.condT rfl ?_
  refine Ends.region ?_
  refine W.op (v := .pointer (some ⟨N,0,none⟩)) (fr1 := ⟨[_,_,_,_,_,_,_,.pointer (some ⟨N,0,none⟩),_,_,_,_,_,_,_,_,_,_,_,_],[]⟩) rfl rfl rfl rfl ?_
  refine W.op (v := .pointer (some ⟨N,0,none⟩)) (fr1 := ⟨[_,_,_,_,_,_,_,_,.pointer (some ⟨N,0,none⟩),_,_,_,_,_,_,_,_,_,_,_],[]⟩) rfl rfl rfl rfl ?_
  refine W.op (v := .pointer (some ⟨N,0,none⟩)) (fr1 := ⟨[_,_,_,_,_,_,_,_,_,.pointer (some ⟨N,0,none⟩),_,_,_,_,_,_,_,_,_,_],[]⟩) rfl (p_toU rfl rfl rfl rfl hr (by simp)) rfl rfl ?_
  refine W.call (ar := [.pointer (some ⟨N,0,none⟩)]) (X := .pointer (some ⟨N,0,none⟩)) (fr1 := ⟨[_,_,_,_,_,_,_,_,_,_,.pointer (some ⟨N,0,none⟩),_,_,_,_,_,_,_,_,_],[]⟩) hO0 rfl rfl rfl rfl (endsExt (g := sameOne) (by kernel_rfl) (by kernel_rfl) rfl) rfl ?_
  intro s1 hO2 hS3
  have nx4 : s.next ≤ s1.next := by have := hS3.next; omega
  have hQ5 := (Oth.refl (fun e => decide (e = 112)) s).own hS3
  have r6 := hr.own hS3
  refine W.op (v := .pointer (some ⟨N,0,none⟩)) (fr1 := ⟨[_,_,_,_,_,_,_,_,_,_,_,.pointer (some ⟨N,0,none⟩),_,_,_,_,_,_,_,_],[]⟩) rfl (p_fromU rfl rfl rfl rfl r6 (by decide) (by simp)) rfl rfl ?_
  refine W.op (v := .pointer (some ⟨N,0,none⟩)) (fr1 := ⟨[_,_,_,_,_,_,_,_,_,_,_,_,.pointer (some ⟨N,0,none⟩),_,_,_,_,_,_,_],[]⟩) rfl rfl rfl rfl ?_
  refine W.op (v := .pointer (some ⟨N,0,none⟩)) (fr1 := ⟨[_,_,_,_,_,_,_,_,_,_,_,_,_,.pointer (some ⟨N,0,none⟩),_,_,_,_,_,_],[]⟩) rfl rfl rfl rfl ?_
  refine W.store2 (cs := [.pointer (some ⟨N,0,none⟩)]) (vs' := [.pointer (some ⟨N,0,none⟩),v]) (fr1 := ⟨[_,_,_,_,_,_,_,_,_,_,_,_,_,_,_,_,_,_,_,_],[]⟩) hO2 r6 hlo rfl rfl rfl rfl (by kernel_rfl) (by simp) (by simp [END,oneCell]) rfl rfl ?_
  intro s7 hO8 hn9 hu10 r11 hX12
  have nx13 : s.next ≤ s7.next := by have := hn9; omega
  have hQ14 := hQ5.upd r6 (by decide) hn9 hu10
  refine EndsOps.nil ?_
  exact ⟨rfl,rfl,⟨hO8,nx13⟩,⟨r11,hol.oth hQ14 (by decide),hQ14⟩⟩
theorem c90b (N : Nat) (v : Value) (s0 s : St) (hO0 : Own s0 s) (hlo : s0.next ≤ N) (hr : Row s.t s.next N [.pointer (some ⟨N,0,none⟩),v] 112 0) (lo : Nat) (x : List UInt8) (hol : OL byteCell 1 5 lo s.t s.next v x) : EndsOn R1.T 90 [.pointer (some ⟨N,0,none⟩)] s0 s (fun _ t n => Row t n N [.pointer (some ⟨N,0,none⟩),v] 112 0 ∧ OL byteCell 1 5 lo t n v x ∧ ∀ M vs e hi,Row s.t s.next M vs e hi → (fun e => decide (e = 112)) e = false → Row t n M vs e hi) := by
  refine EndsOn.of (rs := []) (fr0 := ⟨[.pointer (some ⟨N,0,none⟩),undef,undef,undef,undef,undef,undef,undef,undef,undef,undef,undef,undef,undef,undef,undef,undef,undef,undef,undef],[]⟩) (by kernel_rfl : R1.T.fn 90 = some ⟨20,(Try.f90.body).getD .skip,[]⟩) rfl hO0 ?_
  simp only [Try.f90,Option.getD]
  refine Ends.seq ?_
  refine Ends.region ?_
  refine W.op (v := .pointer (some ⟨N,0,none⟩)) (fr1 := ⟨[_,_,.pointer (some ⟨N,0,none⟩),_,_,_,_,_,_,_,_,_,_,_,_,_,_,_,_,_],[]⟩) rfl rfl rfl rfl ?_
  refine W.op (v := .pointer (some ⟨N,0,none⟩)) (fr1 := ⟨[_,_,_,.pointer (some ⟨N,0,none⟩),_,_,_,_,_,_,_,_,_,_,_,_,_,_,_,_],[]⟩) rfl rfl rfl rfl ?_
  refine W.op (v := .pointer (some ⟨N,0,none⟩)) (fr1 := ⟨[_,_,_,_,.pointer (some ⟨N,0,none⟩),_,_,_,_,_,_,_,_,_,_,_,_,_,_,_],[]⟩) rfl rfl rfl rfl ?_
  refine W.op (v := .pointer (some ⟨N,0,none⟩)) (fr1 := ⟨[_,_,_,_,_,.pointer (some ⟨N,0,none⟩),_,_,_,_,_,_,_,_,_,_,_,_,_,_],[]⟩) rfl (p_load1 hr rfl rfl rfl rfl) rfl rfl ?_
  refine W.op (v := .bool false) (fr1 := ⟨[_,_,_,_,_,_,.bool false,_,_,_,_,_,_,_,_,_,_,_,_,_],[]⟩) rfl rfl rfl rfl ?_
  refine EndsOps.nil ?_
  refine Ends.condF rfl ?_
  refine Ends.seq ?_
  refine Ends.region ?_
  refine W.op (v := .pointer (some ⟨N,0,none⟩)) (fr1 := ⟨[_,_,_,_,_,_,_,_,_,_,_,_,_,_,.pointer (some ⟨N,0,none⟩),_,_,_,_,_],[]⟩) rfl rfl rfl rfl ?_
  refine W.op (v := .pointer (some ⟨N,0,none⟩)) (fr1 := ⟨[_,_,_,_,_,_,_,_,_,_,_,_,_,_,_,.pointer (some ⟨N,0,none⟩),_,_,_,_],[]⟩) rfl rfl rfl rfl ?_
  refine W.op (v := .pointer (some ⟨N,0,none⟩)) (fr1 := ⟨[_,_,_,_,_,_,_,_,_,_,_,_,_,_,_,_,.pointer (some ⟨N,0,none⟩),_,_,_],[]⟩) rfl rfl rfl rfl ?_
  refine W.op (v := .pointer (some ⟨N,0,none⟩)) (fr1 := ⟨[_,_,_,_,_,_,_,_,_,_,_,_,_,_,_,_,_,.pointer (some ⟨N,0,none⟩),_,_],[]⟩) rfl (p_load1 hr rfl rfl rfl rfl) rfl rfl ?_
  refine W.op (v := .pointer (some ⟨N,0,none⟩)) (fr1 := ⟨[_,_,_,_,_,_,_,_,_,_,_,_,_,_,_,_,_,_,.pointer (some ⟨N,0,none⟩),_],[]⟩) rfl rfl rfl rfl ?_
  refine W.op (v := .bool false) (fr1 := ⟨[_,_,_,_,_,_,_,_,_,_,_,_,_,_,_,_,_,_,_,.bool false],[]⟩) rfl (p_bin ptrNe) rfl rfl ?_
  refine EndsOps.nil ?_
  refine Ends.condF rfl ?_
  refine Ends.skip ?_
  exact ⟨rfl,rfl,⟨hO0,Nat.le_refl _⟩,⟨hr,hol.oth (Oth.refl (fun e => decide (e = 112)) s) (by decide),(Oth.refl (fun e => decide (e = 112)) s)⟩⟩
end Go.Ev.R1

/-
  EV: contracts of the first seat's functions.
-/
namespace Go.Ev.R1
open Go Go.Ev Go.Proofs
set_option maxRecDepth 10000
theorem c90 (N : Nat) (s0 s : St) (hO0 : Own s0 s) (x : List UInt8) (hB : Bd 112 5 s0.next s.t s.next N x) : EndsOn R1.T 90 [.pointer (some ⟨N,0,none⟩)] s0 s (fun _ t n => (∃ v,Row t n N [.pointer (some ⟨N,0,none⟩),v] 112 0 ∧ OL byteCell 1 5 s0.next t n v x ∧ (x = [] → v = .slice none 0 0)) ∧ ∀ M vs e hi,Row s.t s.next M vs e hi → (fun e => decide (e = 112)) e = false → Row t n M vs e hi) := by
  obtain ⟨hlo,p,v,hr,hp,hol,hv⟩ := hB
  rcases hp with rfl | rfl
  · exact (c90a N v s0 s hO0 hlo hr s0.next x hol).mono fun _ t n h => ⟨⟨v,h.1,h.2.1,hv⟩,h.2.2⟩
  · exact (c90b N v s0 s hO0 hlo hr s0.next x hol).mono fun _ t n h => ⟨⟨v,h.1,h.2.1,hv⟩,h.2.2⟩
theorem c70 (N : Nat) (x : List UInt8) (y : ByteArray) (hlen : x.length + (B y).length ≤ 140737488355328) (s0 s : St) (hO0 : Own s0 s) (hB : Bd 112 5 s0.next s.t s.next N x) : EndsOn R1.T 70 [.pointer (some ⟨N,0,none⟩),.string y] s0 s (fun w t n => w = .tuple ⟨[.int .i64 (((B y).length : Nat) : Int),.nilIface]⟩ ∧ Bd 112 5 s0.next t n N (x ++ B y) ∧ ∀ M vs e hi,Row s.t s.next M vs e hi → (fun e => decide (e = 112 ∨ e = 5)) e = false → Row t n M vs e hi) := by
  refine EndsOn.of (rs := [4,5]) (fr0 := ⟨[.pointer (some ⟨N,0,none⟩),.string y,undef,undef,undef,undef,undef,undef,undef,undef,undef,undef,undef,undef,undef,undef,undef,undef,undef],[]⟩) (by kernel_rfl : R1.T.fn 70 = some ⟨19,(Try.f70.body).getD .skip,[.tmp 4,.tmp 5]⟩) rfl hO0 ?_
  have hlo := hB.1
  simp only [Try.f70,Option.getD]
  refine Ends.seq ?_
  refine Ends.region ?_
  refine W.op (v := .int .i64 0) (fr1 := ⟨[_,_,_,_,.int .i64 0,_,_,_,_,_,_,_,_,_,_,_,_,_,_],[]⟩) rfl rfl rfl rfl ?_
  refine W.op (v := .nilIface) (fr1 := ⟨[_,_,_,_,_,.nilIface,_,_,_,_,_,_,_,_,_,_,_,_,_],[]⟩) rfl rfl rfl rfl ?_
  refine EndsOps.nil ?_
  refine Ends.seq ?_
  refine Ends.region ?_
  refine W.op (v := .pointer (some ⟨N,0,none⟩)) (fr1 := ⟨[_,_,_,_,_,_,.pointer (some ⟨N,0,none⟩),_,_,_,_,_,_,_,_,_,_,_,_],[]⟩) rfl rfl rfl rfl ?_
  refine W.callOn (ar := [.pointer (some ⟨N,0,none⟩)]) (fF := fun v1 => ⟨[_,_,_,_,_,_,_,v1,_,_,_,_,_,_,_,_,_,_,_],[]⟩) rfl rfl rfl rfl (c90 N s0 _ hO0 x hB) (fun _ => rfl) ?_
  intro v1 s2 hR5 hO3 hn4
  have nx6 : s.next ≤ s2.next := by have := hn4; omega
  obtain ⟨⟨w7,r8,hol9,hv⟩,hq10⟩ := hR5
  have hQ0 : Oth (fun e => decide (e = 112 ∨ e = 5)) s s2 := fun M vs e hi r hx => hq10 M vs e hi r (by simp at hx ⊢; exact hx.1)
  refine EndsOps.nil ?_
  refine Ends.seq ?_
  refine Ends.region ?_
  refine W.op (v := .pointer (some ⟨N,0,none⟩)) (fr1 := ⟨[_,_,_,_,_,_,_,_,.pointer (some ⟨N,0,none⟩),_,_,_,_,_,_,_,_,_,_],[]⟩) rfl rfl rfl rfl ?_
  refine W.op (v := .pointer (some ⟨N,0,none⟩)) (fr1 := ⟨[_,_,_,_,_,_,_,_,_,.pointer (some ⟨N,0,none⟩),_,_,_,_,_,_,_,_,_],[]⟩) rfl rfl rfl rfl ?_
  refine W.op (v := .pointer (some ⟨N,0,none⟩)) (fr1 := ⟨[_,_,_,_,_,_,_,_,_,_,.pointer (some ⟨N,0,none⟩),_,_,_,_,_,_,_,_],[]⟩) rfl rfl rfl rfl ?_
  refine W.op (v := .pointer (some ⟨N,1,none⟩)) (fr1 := ⟨[_,_,_,_,_,_,_,_,_,_,_,.pointer (some ⟨N,1,none⟩),_,_,_,_,_,_,_],[]⟩) rfl rfl rfl rfl ?_
  refine W.op (v := w7) (fr1 := ⟨[_,_,_,_,_,_,_,_,_,_,_,_,w7,_,_,_,_,_,_],[]⟩) rfl (p_load1 r8 rfl rfl rfl rfl) rfl rfl ?_
  refine W.op (v := .string y) (fr1 := ⟨[_,_,_,_,_,_,_,_,_,_,_,_,_,.string y,_,_,_,_,_],[]⟩) rfl rfl rfl rfl ?_
  refine W.appendStr (X := fun e => decide (e = 5)) (l := x) (x := y) (fF := fun v11 => ⟨[_,_,_,_,_,_,_,_,_,_,_,_,_,_,v11,_,_,_,_],[]⟩) app110 hO3 (by decide) hol9 hv rfl rfl rfl rfl (by rw [Nat.mul_one]; exact hlen) (fun _ => rfl) ?_ (by decide)
  intro v11 s12 hO13 hnx14 hq15 hol16 hv1
  have nx17 : s.next ≤ s12.next := by have := hnx14; omega
  have r18 := hq15 _ _ _ _ r8 (by decide)
  have hQ19 := hQ0.trans (Oth.weak hq15 fun e hx => by simp at hx ⊢; exact hx.2)
  obtain ⟨a20,c21,N22,v23,y24,z25,rfl,H26,lo27,C28⟩ := hol16.sl (fun _ => rfl)
  have sm_a20 := H26.small
  refine W.op (v := .pointer (some ⟨N,0,none⟩)) (fr1 := ⟨[_,_,_,_,_,_,_,_,_,_,_,_,_,_,_,.pointer (some ⟨N,0,none⟩),_,_,_],[]⟩) rfl rfl rfl rfl ?_
  refine W.op (v := .pointer (some ⟨N,1,none⟩)) (fr1 := ⟨[_,_,_,_,_,_,_,_,_,_,_,_,_,_,_,_,.pointer (some ⟨N,1,none⟩),_,_],[]⟩) rfl rfl rfl rfl ?_
  refine W.store2 (cs := [.slice a20 ((x ++ B y).length) c21]) (vs' := [.pointer (some ⟨N,0,none⟩),.slice a20 ((x ++ B y).length) c21]) (fr1 := ⟨[_,_,_,_,_,_,_,_,_,_,_,_,_,_,_,_,_,_,_],[]⟩) hO13 r18 hlo rfl rfl rfl rfl (by kernel_rfl) (by simp) (by simp [END,oneCell]) rfl rfl ?_
  intro s29 hO30 hn31 hu32 r33 hX34
  have nx35 : s.next ≤ s29.next := by have := hn31; omega
  have hQ36 := hQ19.upd r18 (by decide) hn31 hu32
  have hol37 := hol16.oth ((Oth.refl (fun e => decide (e = 112)) _).upd r18 (by decide) hn31 hu32) (by decide)
  refine EndsOps.nil ?_
  refine Ends.seq ?_
  refine Ends.region ?_
  refine W.op (v := .string y) (fr1 := ⟨[_,_,_,_,_,_,_,_,_,_,_,_,_,_,_,_,_,.string y,_],[]⟩) rfl rfl rfl rfl ?_
  refine W.op (v := .int .i64 (((B y).length : Nat) : Int)) (fr1 := ⟨[_,_,_,_,_,_,_,_,_,_,_,_,_,_,_,_,_,_,.int .i64 (((B y).length : Nat) : Int)],[]⟩) rfl rfl rfl rfl ?_
  refine W.op (v := .int .i64 (((B y).length : Nat) : Int)) (fr1 := ⟨[_,_,_,_,.int .i64 (((B y).length : Nat) : Int),_,_,_,_,_,_,_,_,_,_,_,_,_,_],[]⟩) rfl rfl rfl rfl ?_
  refine W.op (v := .nilIface) (fr1 := ⟨[_,_,_,_,_,.nilIface,_,_,_,_,_,_,_,_,_,_,_,_,_],[]⟩) rfl rfl rfl rfl ?_
  refine EndsOps.nil ?_
  refine Ends.ret ?_
  exact ⟨rfl,rfl,⟨hO30,nx35⟩,⟨rfl,⟨hlo,_,_,r33,.inr rfl,hol37,hv1⟩,hQ36⟩⟩
end Go.Ev.R1

/-
  EV: contracts of the first seat's functions.
-/
namespace Go.Ev.R1
open Go Go.Ev Go.Proofs
set_option maxRecDepth 10000
theorem u5 : R1.T.und 5 = some (.int .u8) := by kernel_rfl
theorem u135 : R1.T.und 135 = some (.pointer 5) := by kernel_rfl
theorem size5 : R1.T.size 5 = some 1 := by kernel_rfl
theorem p_sd {T : Tab} {ρ : Operand → Value} {s : St} {x : Operand} {t M l c : Nat} (hx : ρ x = .slice (some ⟨M,0,none⟩) l c) (h : 0 < l ∧ c ≠ 0) : evPlain T ρ (.call ⟨.builtin .unsafeSliceData,#[x],#[t]⟩) s = some (.pointer (some ⟨M,0,none⟩),s) := by
  show lift (sliceData [ρ x]) s = _
  rw [hx]
  have e : sliceData [.slice (some ⟨M,0,none⟩) l c] = (if 0 < l ∧ c ≠ 0 then some (.pointer (some ⟨M,0,none⟩)) else none) := rfl
  rw [e,if_pos h]; rfl
theorem ustr_run {N : Nat} {x : List UInt8} {s : St} {n : Nat} (r : Row s.t n N ((x.map byteCell).flatten) 5 0) (hx : x ≠ []) (hl : x.length < END) : unsafeStr R1.T [135,3] [.pointer (some ⟨N,0,none⟩),.int .i64 ((x.length : Nat) : Int)] s = some (.string ⟨⟨x⟩⟩,{ s with t := s.t.set N (some (.cells ((x.map byteCell).flatten) 5 x.length)),mods := N :: s.mods }) := by
  have hpos : 0 < x.length := List.length_pos_iff.2 hx
  unfold unsafeStr
  simp only
  rw [if_neg (by omega),if_neg (by omega)]
  have hsl : (Ev.slice ((x.map byteCell).flatten) 0 x.length).bind bytesOf = some x := by
    unfold Ev.slice
    have hfl : ((x.map byteCell).flatten).length = x.length := by rw [flat_len (k := 1) (fun _ => rfl)]; omega
    simp only [List.drop_zero]
    rw [List.take_of_length_le (by omega),if_pos hfl]
    exact bytesOf_flat x
  simp only [bnd,rowOf,r.get,Int.toNat_natCast,hsl,lift]
  have hp : ptrElem R1.T 135 = some 5 := by unfold ptrElem; rw [u135]
  have hb : isByte R1.T 5 = true := by unfold isByte; rw [u5]
  rw [if_pos ⟨hp,hb,size5,trivial,by decide,hl⟩]
  simp only [setB,r.get,bnd,ret,Nat.zero_max]
theorem c71 (N : Nat) (x : List UInt8) (s0 s : St) (hO0 : Own s0 s) (hB : Bd 112 5 s0.next s.t s.next N x) : EndsOn R1.T 71 [.pointer (some ⟨N,0,none⟩)] s0 s (fun w t n => w = .string ⟨⟨x⟩⟩ ∧ ∀ M vs e hi,Row s.t s.next M vs e hi → (fun e => decide (e = 112 ∨ e = 5)) e = false → Row t n M vs e hi) := by
  obtain ⟨hlo,p,v,hr,_,hol,hv⟩ := hB
  refine EndsOn.of (rs := [2]) (fr0 := ⟨[.pointer (some ⟨N,0,none⟩),undef,undef,undef,undef,undef,undef,undef,undef,undef,undef,undef,undef,undef],[]⟩) (by kernel_rfl : R1.T.fn 71 = some ⟨14,(Try.f71.body).getD .skip,[.tmp 2]⟩) rfl hO0 ?_
  simp only [Try.f71,Option.getD]
  refine Ends.seq ?_
  refine Ends.region ?_
  refine W.op (v := .string ByteArray.empty) (fr1 := ⟨[_,_,.string ByteArray.empty,_,_,_,_,_,_,_,_,_,_,_],[]⟩) rfl rfl rfl rfl ?_
  refine EndsOps.nil ?_
  refine Ends.seq ?_
  refine Ends.draw ?_
  rw [show befL [] _ = [0,1,3,7,15,0,32,96,224,480,1023,2047] by kernel_rfl]
  refine EndsDraw.still0 (v := .pointer (some ⟨N,0,none⟩)) (fr1 := ⟨[_,_,_,.pointer (some ⟨N,0,none⟩),_,_,_,_,_,_,_,_,_,_],[]⟩) rfl rfl rfl rfl rfl ?_
  refine EndsDraw.still0 (v := .pointer (some ⟨N,0,none⟩)) (fr1 := ⟨[_,_,_,_,.pointer (some ⟨N,0,none⟩),_,_,_,_,_,_,_,_,_],[]⟩) rfl rfl rfl rfl rfl ?_
  refine EndsDraw.still0 (v := .pointer (some ⟨N,1,none⟩)) (fr1 := ⟨[_,_,_,_,_,.pointer (some ⟨N,1,none⟩),_,_,_,_,_,_,_,_],[]⟩) rfl rfl rfl rfl rfl ?_
  by_cases hx : x = []
  · have hv0 := hv hx
    subst hv0; subst hx
    refine EndsDraw.load (N := N) (v := .slice none 0 0) (fr1 := ⟨[_,_,_,_,_,_,.slice none 0 0,_,_,_,_,_,_,_],[]⟩) (((Calm.nil.cons rfl).cons rfl).cons rfl) rfl rfl (by nofun) rfl (by simp [hiddenOf]) (fun s1 hg => p_load1 (⟨hg.trans hr.get,hr.lt⟩ : Row s1.t s.next N _ 112 0) rfl rfl rfl rfl) rfl ?_
    refine EndsDraw.still0 (v := .pointer none) (fr1 := ⟨[_,_,_,_,_,_,_,.pointer none,_,_,_,_,_,_],[]⟩) rfl rfl rfl rfl rfl ?_
    refine EndsDraw.still0 (v := .pointer (some ⟨N,0,none⟩)) (fr1 := ⟨[_,_,_,_,_,_,_,_,.pointer (some ⟨N,0,none⟩),_,_,_,_,_],[]⟩) rfl rfl rfl rfl rfl ?_
    refine EndsDraw.still0 (v := .pointer (some ⟨N,0,none⟩)) (fr1 := ⟨[_,_,_,_,_,_,_,_,_,.pointer (some ⟨N,0,none⟩),_,_,_,_],[]⟩) rfl rfl rfl rfl rfl ?_
    refine EndsDraw.still0 (v := .pointer (some ⟨N,1,none⟩)) (fr1 := ⟨[_,_,_,_,_,_,_,_,_,_,.pointer (some ⟨N,1,none⟩),_,_,_],[]⟩) rfl rfl rfl rfl rfl ?_
    refine EndsDraw.load (N := N) (v := .slice none 0 0) (fr1 := ⟨[_,_,_,_,_,_,_,_,_,_,_,.slice none 0 0,_,_],[]⟩) ((((((((Calm.nil.cons rfl).cons rfl).cons rfl).cons rfl).cons rfl).cons rfl).cons rfl).cons rfl) rfl rfl (by nofun) rfl (by simp [hiddenOf]) (fun s1 hg => p_load1 (⟨hg.trans hr.get,hr.lt⟩ : Row s1.t s.next N _ 112 0) rfl rfl rfl rfl) rfl ?_
    refine EndsDraw.still0 (v := .int .i64 0) (fr1 := ⟨[_,_,_,_,_,_,_,_,_,_,_,_,.int .i64 0,_],[]⟩) rfl rfl rfl rfl rfl ?_
    refine EndsDraw.write0 (v := .string ⟨⟨[]⟩⟩) (fr1 := ⟨[_,_,_,_,_,_,_,_,_,_,_,_,_,.string ⟨⟨[]⟩⟩],[]⟩) rfl rfl rfl rfl (by simp [hiddenOf]) (by simp; decide) rfl rfl ?_
    refine EndsDraw.still0 (v := .string ⟨⟨[]⟩⟩) (fr1 := ⟨[_,_,.string ⟨⟨[]⟩⟩,_,_,_,_,_,_,_,_,_,_,_],[]⟩) rfl rfl rfl rfl rfl ?_
    refine EndsDraw.nil ?_
    refine Ends.ret ?_
    exact ⟨rfl,rfl,⟨hO0,Nat.le_refl _⟩,rfl,fun _ _ _ _ h _ => h⟩
  · obtain ⟨hxl,hol2⟩ := hol
    obtain ⟨M,rfl,hm,hM⟩ : ∃ M,v = .slice (some ⟨M,0,none⟩) x.length (END + 1) ∧ Row s.t s.next M ((x.map byteCell).flatten) 5 0 ∧ s0.next ≤ M := by
      rcases hol2 with ⟨h,_⟩ | h
      · exact absurd h hx
      · exact h
    have hpos : 0 < x.length := List.length_pos_iff.2 hx
    refine EndsDraw.load (N := N) (v := .slice (some ⟨M,0,none⟩) x.length (END + 1)) (fr1 := ⟨[_,_,_,_,_,_,.slice (some ⟨M,0,none⟩) x.length (END + 1),_,_,_,_,_,_,_],[]⟩) (((Calm.nil.cons rfl).cons rfl).cons rfl) rfl rfl (by nofun) rfl (by simp [hiddenOf]) (fun s1 hg => p_load1 (⟨hg.trans hr.get,hr.lt⟩ : Row s1.t s.next N _ 112 0) rfl rfl rfl rfl) rfl ?_
    refine EndsDraw.still0 (v := .pointer (some ⟨M,0,none⟩)) (fr1 := ⟨[_,_,_,_,_,_,_,.pointer (some ⟨M,0,none⟩),_,_,_,_,_,_],[]⟩) rfl rfl rfl (p_sd rfl ⟨hpos,by unfold END; omega⟩) rfl ?_
    refine EndsDraw.still0 (v := .pointer (some ⟨N,0,none⟩)) (fr1 := ⟨[_,_,_,_,_,_,_,_,.pointer (some ⟨N,0,none⟩),_,_,_,_,_],[]⟩) rfl rfl rfl rfl rfl ?_
    refine EndsDraw.still0 (v := .pointer (some ⟨N,0,none⟩)) (fr1 := ⟨[_,_,_,_,_,_,_,_,_,.pointer (some ⟨N,0,none⟩),_,_,_,_],[]⟩) rfl rfl rfl rfl rfl ?_
    refine EndsDraw.still0 (v := .pointer (some ⟨N,1,none⟩)) (fr1 := ⟨[_,_,_,_,_,_,_,_,_,_,.pointer (some ⟨N,1,none⟩),_,_,_],[]⟩) rfl rfl rfl rfl rfl ?_
    refine EndsDraw.load (N := N) (v := .slice (some ⟨M,0,none⟩) x.length (END + 1)) (fr1 := ⟨[_,_,_,_,_,_,_,_,_,_,_,.slice (some ⟨M,0,none⟩) x.length (END + 1),_,_],[]⟩) ((((((((Calm.nil.cons rfl).cons rfl).cons rfl).cons rfl).cons rfl).cons rfl).cons rfl).cons rfl) rfl rfl (by nofun) rfl (by simp [hiddenOf]) (fun s1 hg => p_load1 (⟨hg.trans hr.get,hr.lt⟩ : Row s1.t s.next N _ 112 0) rfl rfl rfl rfl) rfl ?_
    refine EndsDraw.still0 (v := .int .i64 ((x.length : Nat) : Int)) (fr1 := ⟨[_,_,_,_,_,_,_,_,_,_,_,_,.int .i64 ((x.length : Nat) : Int),_],[]⟩) rfl rfl rfl rfl rfl ?_
    refine EndsDraw.write (N := M) (v := .string ⟨⟨x⟩⟩) (fr1 := ⟨[_,_,_,_,_,_,_,_,_,_,_,_,_,.string ⟨⟨x⟩⟩],[]⟩) (b := .cells ((x.map byteCell).flatten) 5 x.length) rfl rfl rfl rfl (by simp [hiddenOf]) (by simp; decide) (ustr_run (s := ⟨s.t,s.next,[]⟩) hm hx (by unfold END; omega)) hm.lt (by rw [hm.get]; rfl) rfl ?_
    intro s1 hn1 hm1 hb1 hu1
    refine EndsDraw.still0 (v := .string ⟨⟨x⟩⟩) (fr1 := ⟨[_,_,.string ⟨⟨x⟩⟩,_,_,_,_,_,_,_,_,_,_,_],[]⟩) rfl rfl rfl rfl rfl ?_
    refine EndsDraw.nil ?_
    refine Ends.ret ?_
    exact ⟨rfl,rfl,⟨Own.store hO0 hM hm.lt ⟨[M],hm1,fun K hK => by simpa using hK⟩ hn1 hu1,by rw [hn1]; exact Nat.le_refl _⟩,rfl,fun K vs e hi r hX => (r.upd hn1 hu1 (r.ne hm (fun he => by subst he; simp at hX)))⟩
end Go.Ev.R1
