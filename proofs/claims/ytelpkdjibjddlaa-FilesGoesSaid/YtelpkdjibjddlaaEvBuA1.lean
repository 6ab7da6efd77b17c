/-
  EV: contracts of the first seat's functions.
-/
import Derived.Test.YtelpkdjibjddlaaEvShB1
import Derived.Test.YtelpkdjibjddlaaEvText
namespace Go.Ev.R1
open Go Go.Ev Go.Proofs
set_option maxRecDepth 10000
theorem ptrNe {c : Bool} {N : Nat} : binop R1.T .neq 109 c (.pointer (some ⟨N,0,none⟩)) (.pointer (some ⟨N,0,none⟩)) = some (.bool false) := by
  have e : binop R1.T .neq 109 c (.pointer (some ⟨N,0,none⟩)) (.pointer (some ⟨N,0,none⟩)) = (equalF R1.T 50 109 (.pointer (some ⟨N,0,none⟩)) (.pointer (some ⟨N,0,none⟩))).map fun b => Value.bool (!b) := rfl
  have e2 : equalF R1.T 50 109 (.pointer (some ⟨N,0,none⟩)) (.pointer (some ⟨N,0,none⟩)) = (if N = N then some ((0 : Nat) == 0) else none) := by kernel_rfl
  rw [e,e2,if_pos rfl]; rfl
theorem zero5 : R1.T.zero 5 = some (.int .u8 0) := by kernel_rfl
theorem zero112 : R1.T.zero 112 = some (.agg ⟨[.pointer none,.slice none 0 0]⟩) := by kernel_rfl
theorem app110 : AppOk R1.T 110 9 5 1 1 := ⟨by kernel_rfl,by kernel_rfl,by kernel_rfl,by kernel_rfl,⟨_,zero5,rfl⟩,by decide,by decide⟩
theorem c90a (N : Nat) (v : Value) (s0 s : St) (hO0 : Own s0 s) (hlo : s0.next ≤ N) (hr : Row s.t s.next N [.pointer none,v] 112 0) (lo : Nat) (x : List UInt8) (hol : OL byteCell 1 5 lo s.t s.next v x) : EndsOn R1.T 90 [.pointer (some ⟨N,0,none⟩)] s0 s (fun _ t n => Row t n N [.pointer (some ⟨N,0,none⟩),v] 112 0 ∧ OL byteCell 1 5 lo t n v x ∧ ∀ M vs e hi,Row s.t s.next M vs e hi → (fun e => decide (e = 112)) e = false → Row t n M vs e hi) := by
  refine EndsOn.of (rs := []) (fr0 := ⟨[.pointer (some ⟨N,0,none⟩),undef,undef,undef,undef,undef,undef,undef,undef,undef,undef,undef,undef,undef,undef,undef,undef,undef,undef,undef],[]⟩) (by kernel_rfl : R1.T.fn 90 = some ⟨20,(Try.f90.body).getD .skip,[]⟩) rfl hO0 ?_
  simp only [Try.f90,Option.getD]
  refine Ends.seq ?_
  refine Ends.region ?_
  refine W.op (v := .pointer (some ⟨N,0,none⟩)) (fr1 := ⟨[_,_,.pointer (some ⟨N,0,none⟩),_,_,_,_,_,_,_,_,_,_,_,_,_,_,_,_,_],[]⟩) rfl rfl rfl rfl ?_
  refine W.op (v := .pointer (some ⟨N,0,none⟩)) (fr1 := ⟨[_,_,_,.pointer (some ⟨N,0,none⟩),_,_,_,_,_,_,_,_,_,_,_,_,_,_,_,_],[]⟩) rfl rfl rfl rfl ?_
  refine W.op (v := .pointer (some ⟨N,0,none⟩)) (fr1 := ⟨[_,_,_,_,.pointer (some ⟨N,0,none⟩),_,_,_,_,_,_,_,_,_,_,_,_,_,_,_],[]⟩) rfl rfl rfl rfl ?_
  refine W.op (v := .pointer none) (fr1 := ⟨[_,_,_,_,_,.pointer none,_,_,_,_,_,_,_,_,_,_,_,_,_,_],[]⟩) rfl (p_load1 hr rfl rfl rfl rfl) rfl rfl ?_
  refine W.op (v := .bool true) (fr1 := ⟨[_,_,_,_,_,_,.bool true,_,_,_,_,_,_,_,_,_,_,_,_,_],[]⟩) rfl rfl rfl rfl ?_
  refine EndsOps.nil ?_
  refine Ends.condT rfl ?_
  refine Ends.region ?_
  refine W.op (v := .pointer (some ⟨N,0,none⟩)) (fr1 := ⟨[_,_,_,_,_,_,_,.pointer (some ⟨N,0,none⟩),_,_,_,_,_,_,_,_,_,_,_,_],[]⟩) rfl rfl rfl rfl ?_
  refine W.op (v := .pointer (some ⟨N,0,none⟩)) (fr1 := ⟨[_,_,_,_,_,_,_,_,.pointer (some ⟨N,0,none⟩),_,_,_,_,_,_,_,_,_,_,_],[]⟩) rfl rfl rfl rfl ?_
  refine W.op (v := .pointer (some ⟨N,0,none⟩)) (fr1 := ⟨[_,_,_,_,_,_,_,_,_,.pointer (some ⟨N,0,none⟩),_,_,_,_,_,_,_,_,_,_],[]⟩) rfl (p_toU rfl rfl rfl rfl hr (by simp)) rfl rfl ?_
  refine W.call (ar := [.pointer (some ⟨N,0,none⟩)]) (X := .pointer (some ⟨N,0,none⟩)) (fr1 := ⟨[_,_,_,_,_,_,_,_,_,_,.pointer (some ⟨N,0,none⟩),_,_,_,_,_,_,_,_,_],[]⟩) hO0 rfl rfl rfl rfl (endsExt (g := sameOne) (by kernel_rfl) (by kernel_rfl) rfl) rfl ?_
  intro s1 hO2 hS3
  have nx4 : s.next ≤ s1.next := by have := hS3.next; omega
  have hQ5 := (Oth.refl (fun e => decide (e = 112)) s).own hS3
  have r6 := hr.own hS3
  refine W.op (v := .pointer (some ⟨N,0,none⟩)) (fr1 := ⟨[_,_,_,_,_,_,_,_,_,_,_,.pointer (some ⟨N,0,none⟩),_,_,_,_,_,_,_,_],[]⟩) rfl (p_fromU rfl rfl rfl rfl r6 (by decide) (by simp)) rfl rfl ?_
  refine W.op (v := .pointer (some ⟨N,0,none⟩)) (fr1 := ⟨[_,_,_,_,_,_,_,_,_,_,_,_,.pointer (some ⟨N,0,none⟩),_,_,_,_,_,_,_],[]⟩) rfl rfl rfl rfl ?_
  refine W.op (v := .pointer (some ⟨N,0,none⟩)) (fr1 := ⟨[_,_,_,_,_,_,_,_,_,_,_,_,_,.pointer (some ⟨N,0,none⟩),_,_,_,_,_,_],[]⟩) rfl rfl rfl rfl ?_
  refine W.store2 (cs := [.pointer (some ⟨N,0,none⟩)]) (vs' := [.pointer (some ⟨N,0,none⟩),v]) (fr1 := ⟨[_,_,_,_,_,_,_,_,_,_,_,_,_,_,_,_,_,_,_,_],[]⟩) hO2 r6 hlo rfl rfl rfl rfl (by kernel_rfl) (by simp) (by simp [END,oneCell]) rfl rfl ?_
  intro s7 hO8 hn9 hu10 r11 hX12
  have nx13 : s.next ≤ s7.next := by have := hn9; omega
  have hQ14 := hQ5.upd r6 (by decide) hn9 hu10
  refine EndsOps.nil ?_
  exact ⟨rfl,rfl,⟨hO8,nx13⟩,⟨r11,hol.oth hQ14 (by decide),hQ14⟩⟩
theorem c90b (N : Nat) (v : Value) (s0 s : St) (hO0 : Own s0 s) (hlo : s0.next ≤ N) (hr : Row s.t s.next N [.pointer (some ⟨N,0,none⟩),v] 112 0) (lo : Nat) (x : List UInt8) (hol : OL byteCell 1 5 lo s.t s.next v x) : EndsOn R1.T 90 [.pointer (some ⟨N,0,none⟩)] s0 s (fun _ t n => Row t n N [.pointer (some ⟨N,0,none⟩),v] 112 0 ∧ OL byteCell 1 5 lo t n v x ∧ ∀ M vs e hi,Row s.t s.next M vs e hi → (fun e => decide (e = 112)) e = false → Row t n M vs e hi) := by
  refine EndsOn.of (rs := []) (fr0 := ⟨[.pointer (some ⟨N,0,none⟩),undef,undef,undef,undef,undef,undef,undef,undef,undef,undef,undef,undef,undef,undef,undef,undef,undef,undef,undef],[]⟩) (by kernel_rfl : R1.T.fn 90 = some ⟨20,(Try.f90.body).getD .skip,[]⟩) rfl hO0 ?_
  simp only [Try.f90,Option.getD]
  refine Ends.seq ?_
  refine Ends.region ?_
  refine W.op (v := .pointer (some ⟨N,0,none⟩)) (fr1 := ⟨[_,_,.pointer (some ⟨N,0,none⟩),_,_,_,_,_,_,_,_,_,_,_,_,_,_,_,_,_],[]⟩) rfl rfl rfl rfl ?_
  refine W.op (v := .pointer (some ⟨N,0,none⟩)) (fr1 := ⟨[_,_,_,.pointer (some ⟨N,0,none⟩),_,_,_,_,_,_,_,_,_,_,_,_,_,_,_,_],[]⟩) rfl rfl rfl rfl ?_
  refine W.op (v := .pointer (some ⟨N,0,none⟩)) (fr1 := ⟨[_,_,_,_,.pointer (some ⟨N,0,none⟩),_,_,_,_,_,_,_,_,_,_,_,_,_,_,_],[]⟩) rfl rfl rfl rfl ?_
  refine W.op (v := .pointer (some ⟨N,0,none⟩)) (fr1 := ⟨[_,_,_,_,_,.pointer (some ⟨N,0,none⟩),_,_,_,_,_,_,_,_,_,_,_,_,_,_],[]⟩) rfl (p_load1 hr rfl rfl rfl rfl) rfl rfl ?_
  refine W.op (v := .bool false) (fr1 := ⟨[_,_,_,_,_,_,.bool false,_,_,_,_,_,_,_,_,_,_,_,_,_],[]⟩) rfl rfl rfl rfl ?_
  refine EndsOps.nil ?_
  refine Ends.condF rfl ?_
  refine Ends.seq ?_
  refine Ends.region ?_
  refine W.op (v := .pointer (some ⟨N,0,none⟩)) (fr1 := ⟨[_,_,_,_,_,_,_,_,_,_,_,_,_,_,.pointer (some ⟨N,0,none⟩),_,_,_,_,_],[]⟩) rfl rfl rfl rfl ?_
  refine W.op (v := .pointer (some ⟨N,0,none⟩)) (fr1 := ⟨[_,_,_,_,_,_,_,_,_,_,_,_,_,_,_,.pointer (some ⟨N,0,none⟩),_,_,_,_],[]⟩) rfl rfl rfl rfl ?_
  refine W.op (v := .pointer (some ⟨N,0,none⟩)) (fr1 := ⟨[_,_,_,_,_,_,_,_,_,_,_,_,_,_,_,_,.pointer (some ⟨N,0,none⟩),_,_,_],[]⟩) rfl rfl rfl rfl ?_
  refine W.op (v := .pointer (some ⟨N,0,none⟩)) (fr1 := ⟨[_,_,_,_,_,_,_,_,_,_,_,_,_,_,_,_,_,.pointer (some ⟨N,0,none⟩),_,_],[]⟩) rfl (p_load1 hr rfl rfl rfl rfl) rfl rfl ?_
  refine W.op (v := .pointer (some ⟨N,0,none⟩)) (fr1 := ⟨[_,_,_,_,_,_,_,_,_,_,_,_,_,_,_,_,_,_,.pointer (some ⟨N,0,none⟩),_],[]⟩) rfl rfl rfl rfl ?_
  refine W.op (v := .bool false) (fr1 := ⟨[_,_,_,_,_,_,_,_,_,_,_,_,_,_,_,_,_,_,_,.bool false],[]⟩) rfl (p_bin ptrNe) rfl rfl ?_
  refine EndsOps.nil ?_
  refine Ends.condF rfl ?_
  refine Ends.skip ?_
  exact ⟨rfl,rfl,⟨hO0,Nat.le_refl _⟩,⟨hr,hol.oth (Oth.refl (fun e => decide (e = 112)) s) (by decide),(Oth.refl (fun e => decide (e = 112)) s)⟩⟩
end Go.Ev.R1

