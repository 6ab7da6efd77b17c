/-
  EV: contracts of the first seat's functions.
-/
import Derived.Test.YtelpkdjibjddlaaEvBuB1
namespace Go.Ev.R1
open Go Go.Ev Go.Proofs
set_option maxRecDepth 10000
theorem u5 : R1.T.und 5 = some (.int .u8) := by kernel_rfl
theorem u135 : R1.T.und 135 = some (.pointer 5) := by kernel_rfl
theorem size5 : R1.T.size 5 = some 1 := by kernel_rfl
theorem p_sd {T : Tab} {ρ : Operand → Value} {s : St} {x : Operand} {t M l c : Nat} (hx : ρ x = .slice (some ⟨M,0,none⟩) l c) (h : 0 < l ∧ c ≠ 0) : evPlain T ρ (.call ⟨.builtin .unsafeSliceData,#[x],#[t]⟩) s = some (.pointer (some ⟨M,0,none⟩),s) := by
  show lift (sliceData [ρ x]) s = _
  rw [hx]
  have e : sliceData [.slice (some ⟨M,0,none⟩) l c] = (if 0 < l ∧ c ≠ 0 then some (.pointer (some ⟨M,0,none⟩)) else none) := rfl
  rw [e,if_pos h]; rfl
theorem ustr_run {N : Nat} {x : List UInt8} {s : St} {n : Nat} (r : Row s.t n N ((x.map byteCell).flatten) 5 0) (hx : x ≠ []) (hl : x.length < END) : unsafeStr R1.T [135,3] [.pointer (some ⟨N,0,none⟩),.int .i64 ((x.length : Nat) : Int)] s = some (.string ⟨⟨x⟩⟩,{ s with t := s.t.set N (some (.cells ((x.map byteCell).flatten) 5 x.length)),mods := N :: s.mods }) := by
  have hpos : 0 < x.length := List.length_pos_iff.2 hx
  unfold unsafeStr
  simp only
  rw [if_neg (by omega),if_neg (by omega)]
  have hsl : (Ev.slice ((x.map byteCell).flatten) 0 x.length).bind bytesOf = some x := by
    unfold Ev.slice
    have hfl : ((x.map byteCell).flatten).length = x.length := by rw [flat_len (k := 1) (fun _ => rfl)]; omega
    simp only [List.drop_zero]
    rw [List.take_of_length_le (by omega),if_pos hfl]
    exact bytesOf_flat x
  simp only [bnd,rowOf,r.get,Int.toNat_natCast,hsl,lift]
  have hp : ptrElem R1.T 135 = some 5 := by unfold ptrElem; rw [u135]
  have hb : isByte R1.T 5 = true := by unfold isByte; rw [u5]
  rw [if_pos ⟨hp,hb,size5,trivial,by decide,hl⟩]
  simp only [setB,r.get,bnd,ret,Nat.zero_max]
theorem c71 (N : Nat) (x : List UInt8) (s0 s : St) (hO0 : Own s0 s) (hB : Bd 112 5 s0.next s.t s.next N x) : EndsOn R1.T 71 [.pointer (some ⟨N,0,none⟩)] s0 s (fun w t n => w = .string ⟨⟨x⟩⟩ ∧ ∀ M vs e hi,Row s.t s.next M vs e hi → (fun e => decide (e = 112 ∨ e = 5)) e = false → Row t n M vs e hi) := by
  obtain ⟨hlo,p,v,hr,_,hol,hv⟩ := hB
  refine EndsOn.of (rs := [2]) (fr0 := ⟨[.pointer (some ⟨N,0,none⟩),undef,undef,undef,undef,undef,undef,undef,undef,undef,undef,undef,undef,undef],[]⟩) (by kernel_rfl : R1.T.fn 71 = some ⟨14,(Try.f71.body).getD .skip,[.tmp 2]⟩) rfl hO0 ?_
  simp only [Try.f71,Option.getD]
  refine Ends.seq ?_
  refine Ends.region ?_
  refine W.op (v := .string ByteArray.empty) (fr1 := ⟨[_,_,.string ByteArray.empty,_,_,_,_,_,_,_,_,_,_,_],[]⟩) rfl rfl rfl rfl ?_
  refine EndsOps.nil ?_
  refine Ends.seq ?_
  refine Ends.draw ?_
  rw [show befL [] _ = [0,1,3,7,15,0,32,96,224,480,1023,2047] by kernel_rfl]
  refine EndsDraw.still0 (v := .pointer (some ⟨N,0,none⟩)) (fr1 := ⟨[_,_,_,.pointer (some ⟨N,0,none⟩),_,_,_,_,_,_,_,_,_,_],[]⟩) rfl rfl rfl rfl rfl ?_
  refine EndsDraw.still0 (v := .pointer (some ⟨N,0,none⟩)) (fr1 := ⟨[_,_,_,_,.pointer (some ⟨N,0,none⟩),_,_,_,_,_,_,_,_,_],[]⟩) rfl rfl rfl rfl rfl ?_
  refine EndsDraw.still0 (v := .pointer (some ⟨N,1,none⟩)) (fr1 := ⟨[_,_,_,_,_,.pointer (some ⟨N,1,none⟩),_,_,_,_,_,_,_,_],[]⟩) rfl rfl rfl rfl rfl ?_
  by_cases hx : x = []
  · have hv0 := hv hx
    subst hv0; subst hx
    refine EndsDraw.load (N := N) (v := .slice none 0 0) (fr1 := ⟨[_,_,_,_,_,_,.slice none 0 0,_,_,_,_,_,_,_],[]⟩) (((Calm.nil.cons rfl).cons rfl).cons rfl) rfl rfl (by nofun) rfl (by simp [hiddenOf]) (fun s1 hg => p_load1 (⟨hg.trans hr.get,hr.lt⟩ : Row s1.t s.next N _ 112 0) rfl rfl rfl rfl) rfl ?_
    refine EndsDraw.still0 (v := .pointer none) (fr1 := ⟨[_,_,_,_,_,_,_,.pointer none,_,_,_,_,_,_],[]⟩) rfl rfl rfl rfl rfl ?_
    refine EndsDraw.still0 (v := .pointer (some ⟨N,0,none⟩)) (fr1 := ⟨[_,_,_,_,_,_,_,_,.pointer (some ⟨N,0,none⟩),_,_,_,_,_],[]⟩) rfl rfl rfl rfl rfl ?_
    refine EndsDraw.still0 (v := .pointer (some ⟨N,0,none⟩)) (fr1 := ⟨[_,_,_,_,_,_,_,_,_,.pointer (some ⟨N,0,none⟩),_,_,_,_],[]⟩) rfl rfl rfl rfl rfl ?_
    refine EndsDraw.still0 (v := .pointer (some ⟨N,1,none⟩)) (fr1 := ⟨[_,_,_,_,_,_,_,_,_,_,.pointer (some ⟨N,1,none⟩),_,_,_],[]⟩) rfl rfl rfl rfl rfl ?_
    refine EndsDraw.load (N := N) (v := .slice none 0 0) (fr1 := ⟨[_,_,_,_,_,_,_,_,_,_,_,.slice none 0 0,_,_],[]⟩) ((((((((Calm.nil.cons rfl).cons rfl).cons rfl).cons rfl).cons rfl).cons rfl).cons rfl).cons rfl) rfl rfl (by nofun) rfl (by simp [hiddenOf]) (fun s1 hg => p_load1 (⟨hg.trans hr.get,hr.lt⟩ : Row s1.t s.next N _ 112 0) rfl rfl rfl rfl) rfl ?_
    refine EndsDraw.still0 (v := .int .i64 0) (fr1 := ⟨[_,_,_,_,_,_,_,_,_,_,_,_,.int .i64 0,_],[]⟩) rfl rfl rfl rfl rfl ?_
    refine EndsDraw.write0 (v := .string ⟨⟨[]⟩⟩) (fr1 := ⟨[_,_,_,_,_,_,_,_,_,_,_,_,_,.string ⟨⟨[]⟩⟩],[]⟩) rfl rfl rfl rfl (by simp [hiddenOf]) (by simp; decide) rfl rfl ?_
    refine EndsDraw.still0 (v := .string ⟨⟨[]⟩⟩) (fr1 := ⟨[_,_,.string ⟨⟨[]⟩⟩,_,_,_,_,_,_,_,_,_,_,_],[]⟩) rfl rfl rfl rfl rfl ?_
    refine EndsDraw.nil ?_
    refine Ends.ret ?_
    exact ⟨rfl,rfl,⟨hO0,Nat.le_refl _⟩,rfl,fun _ _ _ _ h _ => h⟩
  · obtain ⟨hxl,hol2⟩ := hol
    obtain ⟨M,rfl,hm,hM⟩ : ∃ M,v = .slice (some ⟨M,0,none⟩) x.length (END + 1) ∧ Row s.t s.next M ((x.map byteCell).flatten) 5 0 ∧ s0.next ≤ M := by
      rcases hol2 with ⟨h,_⟩ | h
      · exact absurd h hx
      · exact h
    have hpos : 0 < x.length := List.length_pos_iff.2 hx
    refine EndsDraw.load (N := N) (v := .slice (some ⟨M,0,none⟩) x.length (END + 1)) (fr1 := ⟨[_,_,_,_,_,_,.slice (some ⟨M,0,none⟩) x.length (END + 1),_,_,_,_,_,_,_],[]⟩) (((Calm.nil.cons rfl).cons rfl).cons rfl) rfl rfl (by nofun) rfl (by simp [hiddenOf]) (fun s1 hg => p_load1 (⟨hg.trans hr.get,hr.lt⟩ : Row s1.t s.next N _ 112 0) rfl rfl rfl rfl) rfl ?_
    refine EndsDraw.still0 (v := .pointer (some ⟨M,0,none⟩)) (fr1 := ⟨[_,_,_,_,_,_,_,.pointer (some ⟨M,0,none⟩),_,_,_,_,_,_],[]⟩) rfl rfl rfl (p_sd rfl ⟨hpos,by unfold END; omega⟩) rfl ?_
    refine EndsDraw.still0 (v := .pointer (some ⟨N,0,none⟩)) (fr1 := ⟨[_,_,_,_,_,_,_,_,.pointer (some ⟨N,0,none⟩),_,_,_,_,_],[]⟩) rfl rfl rfl rfl rfl ?_
    refine EndsDraw.still0 (v := .pointer (some ⟨N,0,none⟩)) (fr1 := ⟨[_,_,_,_,_,_,_,_,_,.pointer (some ⟨N,0,none⟩),_,_,_,_],[]⟩) rfl rfl rfl rfl rfl ?_
    refine EndsDraw.still0 (v := .pointer (some ⟨N,1,none⟩)) (fr1 := ⟨[_,_,_,_,_,_,_,_,_,_,.pointer (some ⟨N,1,none⟩),_,_,_],[]⟩) rfl rfl rfl rfl rfl ?_
    refine EndsDraw.load (N := N) (v := .slice (some ⟨M,0,none⟩) x.length (END + 1)) (fr1 := ⟨[_,_,_,_,_,_,_,_,_,_,_,.slice (some ⟨M,0,none⟩) x.length (END + 1),_,_],[]⟩) ((((((((Calm.nil.cons rfl).cons rfl).cons rfl).cons rfl).cons rfl).cons rfl).cons rfl).cons rfl) rfl rfl (by nofun) rfl (by simp [hiddenOf]) (fun s1 hg => p_load1 (⟨hg.trans hr.get,hr.lt⟩ : Row s1.t s.next N _ 112 0) rfl rfl rfl rfl) rfl ?_
    refine EndsDraw.still0 (v := .int .i64 ((x.length : Nat) : Int)) (fr1 := ⟨[_,_,_,_,_,_,_,_,_,_,_,_,.int .i64 ((x.length : Nat) : Int),_],[]⟩) rfl rfl rfl rfl rfl ?_
    refine EndsDraw.write (N := M) (v := .string ⟨⟨x⟩⟩) (fr1 := ⟨[_,_,_,_,_,_,_,_,_,_,_,_,_,.string ⟨⟨x⟩⟩],[]⟩) (b := .cells ((x.map byteCell).flatten) 5 x.length) rfl rfl rfl rfl (by simp [hiddenOf]) (by simp; decide) (ustr_run (s := ⟨s.t,s.next,[]⟩) hm hx (by unfold END; omega)) hm.lt (by rw [hm.get]; rfl) rfl ?_
    intro s1 hn1 hm1 hb1 hu1
    refine EndsDraw.still0 (v := .string ⟨⟨x⟩⟩) (fr1 := ⟨[_,_,.string ⟨⟨x⟩⟩,_,_,_,_,_,_,_,_,_,_,_],[]⟩) rfl rfl rfl rfl rfl ?_
    refine EndsDraw.nil ?_
    refine Ends.ret ?_
    exact ⟨rfl,rfl,⟨Own.store hO0 hM hm.lt ⟨[M],hm1,fun K hK => by simpa using hK⟩ hn1 hu1,by rw [hn1]; exact Nat.le_refl _⟩,rfl,fun K vs e hi r hX => (r.upd hn1 hu1 (r.ne hm (fun he => by subst he; simp at hX)))⟩
end Go.Ev.R1

