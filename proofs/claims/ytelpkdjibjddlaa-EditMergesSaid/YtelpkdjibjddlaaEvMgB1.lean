/-
  EV: contracts of the first seat's functions.
-/
import Derived.Test.YtelpkdjibjddlaaEvMgA1
import Derived.Test.YtelpkdjibjddlaaEvMergeLaw
namespace Go.Ev.R1
open Go Go.Ev Go.Proofs
set_option maxRecDepth 10000
set_option maxHeartbeats 4000000

theorem c85 (al : Option Addr) (l : List Ed) (cl Nl ol : Nat) (vl : List Value) (yl zl : Nat) (hB : l.length ≤ 1000000) (C : Cp 3 al l.length cl) (s : St) (Hl : Sl Ed.cells 3 s.t s.next al l Nl ol vl yl zl)  : EndsPure R1.T 85 [.slice al l.length cl] s (fun v t m => OL Ed.cells 3 97 s.next t m v l) := by
  refine EndsPure.of (rs := [2]) (fr0 := ⟨[.slice al l.length cl, undef, undef, undef, undef, undef, undef, undef], []⟩) (by kernel_rfl : R1.T.fn 85 = some ⟨8, (Try.f85.body).getD .skip, [.tmp 2]⟩) rfl ?_
  have hO0 := Own.refl s
  have Ml := Hl.small
  simp only [Try.f85, Option.getD]
  refine Ends.seq ?_
  refine Ends.region ?_
  refine W.op (v := .slice none 0 0) (fr1 := ⟨[_,_, .slice none 0 0, _,_,_,_,_], []⟩) rfl rfl rfl rfl ?_
  refine EndsOps.nil ?_
  refine Ends.seq ?_
  refine Ends.seq ?_
  refine Ends.region ?_
  refine W.op (v := .slice al l.length cl) (fr1 := ⟨[_,_,_, .slice al l.length cl, _,_,_,_], []⟩) rfl rfl rfl rfl ?_
  by_cases h1 : al = none
  · skip
    refine W.op (v := .bool true) (fr1 := ⟨[_,_,_,_, .bool true, _,_,_], []⟩) rfl (p_bin (nil_eqT h1)) rfl rfl ?_
    refine EndsOps.nil ?_
    refine Ends.condT rfl ?_
    refine Ends.seq ?_
    refine Ends.region ?_
    refine W.op (v := .slice none 0 0) (fr1 := ⟨[_,_, .slice none 0 0, _,_,_,_,_], []⟩) rfl rfl rfl rfl ?_
    refine EndsOps.nil ?_
    refine Ends.ret ?_
    exact ⟨rfl, rfl, hO0, (by rw [nil_of_none Hl h1]; exact OL.nil)⟩
  · skip
    refine W.op (v := .bool false) (fr1 := ⟨[_,_,_,_, .bool false, _,_,_], []⟩) rfl (p_bin (nil_eqF h1)) rfl rfl ?_
    refine EndsOps.nil ?_
    refine Ends.condF rfl ?_
    refine Ends.skip ?_
    refine Ends.seq ?_
    refine Ends.region ?_
    obtain ⟨N2, hN3⟩ : ∃ N, N = s.next := ⟨_, rfl⟩
    refine W.newE (N := N2) (fr1 := ⟨[_,_,_,_,_, .slice (some ⟨N2, 0, none⟩) 0 0, _,_], []⟩) hO0 hN3 rfl rfl rfl rfl zero97 rfl rfl ?_
    intro s4 hO5 hS6
    refine W.op (v := .slice al l.length cl) (fr1 := ⟨[_,_,_,_,_,_, .slice al l.length cl, _], []⟩) rfl rfl rfl rfl ?_
    refine W.appendL (c := Ed.cells) (l := l) (fF := fun v7 => ⟨[_,_,_,_,_,_,_, v7], []⟩) app22m (fun _ => rfl) (by exact Ed.one) hO5 OL.none (Hl.own hO5) C rfl rfl rfl rfl (by omega) (fun _ => rfl) ?_
    intro v7 s8 hO9 hnx10 hol11
    refine W.op (v := v7) (fr1 := ⟨[_,_, v7, _,_,_,_,_], []⟩) rfl rfl rfl rfl ?_
    refine EndsOps.nil ?_
    refine Ends.ret ?_
    exact ⟨rfl, rfl, hO9, hol11⟩

theorem c51T (al : Option Addr) (l : List Ed) (cl Nl ol : Nat) (vl : List Value) (yl zl : Nat) (n : Int) (hR : Right l n) (hT : sumT l ≤ 1000000) (hB : l.length ≤ 1000000) (s : St) (Hl : Sl Ed.cells 3 s.t s.next al l Nl ol vl yl zl)  : EndsPure R1.T 51 [.slice al l.length cl, .int .i64 n] s (fun v t m => ∃ a cap N vs e hi, v = .tuple ⟨[.slice a (mgS l).length cap, .nilIface]⟩ ∧ Sl Ed.cells 3 t m a (mgS l) N 0 vs e hi) := by
  refine EndsPure.of (rs := [4, 5]) (fr0 := ⟨[.slice al l.length cl, .int .i64 n, undef, undef, undef, undef, undef, undef, undef, undef, undef, undef, undef, undef, undef, undef, undef, undef, undef, undef, undef, undef, undef, undef, undef, undef, undef, undef, undef, undef, undef, undef, undef, undef, undef, undef, undef, undef, undef, undef, undef, undef, undef, undef, undef, undef, undef, undef, undef, undef, undef, undef, undef, undef, undef, undef, undef, undef, undef, undef, undef], []⟩) (by kernel_rfl : R1.T.fn 51 = some ⟨61, (Try.f51.body).getD .skip, [.tmp 4, .tmp 5]⟩) rfl ?_
  have hO0 := Own.refl s
  have Ml := Hl.small
  simp only [Try.f51, Option.getD]
  refine Ends.seq ?_
  refine Ends.region ?_
  refine W.op (v := .slice none 0 0) (fr1 := ⟨[_,_,_,_, .slice none 0 0, _,_,_,_,_,_,_,_,_,_,_,_,_,_,_,_,_,_,_,_,_,_,_,_,_,_,_,_,_,_,_,_,_,_,_,_,_,_,_,_,_,_,_,_,_,_,_,_,_,_,_,_,_,_,_,_], []⟩) rfl rfl rfl rfl ?_
  refine W.op (v := .nilIface) (fr1 := ⟨[_,_,_,_,_, .nilIface, _,_,_,_,_,_,_,_,_,_,_,_,_,_,_,_,_,_,_,_,_,_,_,_,_,_,_,_,_,_,_,_,_,_,_,_,_,_,_,_,_,_,_,_,_,_,_,_,_,_,_,_,_,_,_], []⟩) rfl rfl rfl rfl ?_
  refine EndsOps.nil ?_
  refine Ends.seq ?_
  refine Ends.seq ?_
  refine Ends.region ?_
  refine W.op (v := .slice al l.length cl) (fr1 := ⟨[_,_,_,_,_,_,_,_,_,_, .slice al l.length cl, _,_,_,_,_,_,_,_,_,_,_,_,_,_,_,_,_,_,_,_,_,_,_,_,_,_,_,_,_,_,_,_,_,_,_,_,_,_,_,_,_,_,_,_,_,_,_,_,_,_], []⟩) rfl rfl rfl rfl ?_
  refine W.op (v := .int .i64 n) (fr1 := ⟨[_,_,_,_,_,_,_,_,_,_,_, .int .i64 n, _,_,_,_,_,_,_,_,_,_,_,_,_,_,_,_,_,_,_,_,_,_,_,_,_,_,_,_,_,_,_,_,_,_,_,_,_,_,_,_,_,_,_,_,_,_,_,_,_], []⟩) rfl rfl rfl rfl ?_
  refine W.call (ar := [.slice al l.length cl, .int .i64 n]) (X := .bool true) (fr1 := ⟨[_,_,_,_,_,_,_,_,_,_,_,_, .bool true, _,_,_,_,_,_,_,_,_,_,_,_,_,_,_,_,_,_,_,_,_,_,_,_,_,_,_,_,_,_,_,_,_,_,_,_,_,_,_,_,_,_,_,_,_,_,_,_], []⟩) hO0 rfl rfl rfl rfl ((c35 _ _ _ _ _ _ _ _ n _ (Hl.own hO0)).mono fun v _ _ h => h.trans (congrArg Value.bool (decide_eq_true hR))) rfl ?_
  intro s1 hO2 hS3
  refine W.op (v := .bool false) (fr1 := ⟨[_,_,_,_,_,_,_,_,_,_,_,_,_, .bool false, _,_,_,_,_,_,_,_,_,_,_,_,_,_,_,_,_,_,_,_,_,_,_,_,_,_,_,_,_,_,_,_,_,_,_,_,_,_,_,_,_,_,_,_,_,_,_], []⟩) rfl rfl rfl rfl ?_
  refine EndsOps.nil ?_
  refine Ends.condF rfl ?_
  refine Ends.skip ?_
  refine Ends.seq ?_
  refine Ends.region ?_
  refine W.op (v := .slice none 0 0) (fr1 := ⟨[_,_,_,_,_,_, .slice none 0 0, _,_,_,_,_,_,_,_,_,_,_,_,_,_,_,_,_,_,_,_,_,_,_,_,_,_,_,_,_,_,_,_,_,_,_,_,_,_,_,_,_,_,_,_,_,_,_,_,_,_,_,_,_,_], []⟩) rfl rfl rfl rfl ?_
  refine EndsOps.nil ?_
  refine Ends.seq ?_
  refine Ends.seq ?_
  refine Ends.region ?_
  refine W.op (v := .slice al l.length cl) (fr1 := ⟨[_,_,_,_,_,_,_,_,_,_,_,_,_,_,_, .slice al l.length cl, _,_,_,_,_,_,_,_,_,_,_,_,_,_,_,_,_,_,_,_,_,_,_,_,_,_,_,_,_,_,_,_,_,_,_,_,_,_,_,_,_,_,_,_,_], []⟩) rfl rfl rfl rfl ?_
  refine W.op (v := .int .i64 ((l.length : Nat) : Int)) (fr1 := ⟨[_,_,_,_,_,_,_,_,_,_,_,_,_,_,_,_, .int .i64 ((l.length : Nat) : Int), _,_,_,_,_,_,_,_,_,_,_,_,_,_,_,_,_,_,_,_,_,_,_,_,_,_,_,_,_,_,_,_,_,_,_,_,_,_,_,_,_,_,_,_], []⟩) rfl rfl rfl rfl ?_
  refine W.op (v := .int .i64 0) (fr1 := ⟨[_,_,_,_,_,_,_,_,_,_,_,_,_,_,_,_,_, .int .i64 0, _,_,_,_,_,_,_,_,_,_,_,_,_,_,_,_,_,_,_,_,_,_,_,_,_,_,_,_,_,_,_,_,_,_,_,_,_,_,_,_,_,_,_], []⟩) rfl rfl rfl rfl ?_
  refine EndsOps.nil ?_
  refine W.block ?_
  refine Ends.loopJ (fun d jf4 fr s1 => ∃ (i : Nat) (v : Value), fr = ⟨[.slice al l.length cl, .int .i64 n, undef, undef, .slice none 0 0, .nilIface, v, undef, (jf4 8), (jf4 9), .slice al l.length cl, .int .i64 n, .bool true, .bool false, undef, .slice al l.length cl, .int .i64 ((l.length : Nat) : Int), .int .i64 ((i : Nat) : Int), (jf4 18), (jf4 19), (jf4 20), (jf4 21), (jf4 22), (jf4 23), (jf4 24), (jf4 25), (jf4 26), (jf4 27), (jf4 28), (jf4 29), (jf4 30), (jf4 31), (jf4 32), (jf4 33), (jf4 34), (jf4 35), (jf4 36), (jf4 37), (jf4 38), (jf4 39), (jf4 40), (jf4 41), (jf4 42), (jf4 43), (jf4 44), (jf4 45), (jf4 46), (jf4 47), (jf4 48), (jf4 49), (jf4 50), (jf4 51), (jf4 52), (jf4 53), (jf4 54), (jf4 55), (jf4 56), (jf4 57), (jf4 58), undef, undef], []⟩ ∧ Own s s1 ∧ d = l.length - i ∧ (OL Ed.cells 3 97 s.next s1.t s1.next v (mgF (l.take i))) ∧ (i ≤ l.length)) ?_ _ _ _ ⟨0, .slice none 0 0, (by kernel_rfl), hO2, rfl, OL.nil, Nat.zero_le _⟩
  rintro d jf4 _ s5 ⟨i, v, rfl, hO6, hd7, hol8, hi⟩
  have gl0 := mgF_len l i hi
  refine Ends.seq ?_
  refine Ends.region ?_
  by_cases h9 : ((i : Nat) : Int) < ((l.length : Nat) : Int)
  · skip
    refine W.op (v := .bool true) (fr1 := ⟨[_,_,_,_,_,_,_,_,_,_,_,_,_,_,_,_,_,_, .bool true, _,_,_,_,_,_,_,_,_,_,_,_,_,_,_,_,_,_,_,_,_,_,_,_,_,_,_,_,_,_,_,_,_,_,_,_,_,_,_,_,_,_], []⟩) rfl (p_bin (ltT h9)) rfl rfl ?_
    refine EndsOps.nil ?_
    refine Ends.seq ?_
    refine Ends.condT rfl ?_
    refine Ends.skip ?_
    refine Ends.seq ?_
    refine W.block ?_
    refine Ends.seq ?_
    refine Ends.region ?_
    obtain ⟨a10, cq11, N12, v13, y14, z15, rfl, H16, lo17, C18⟩ := hol8.sl (fun _ => rfl)
    have sm_a10 := H16.small
    obtain ⟨e19, he20⟩ := ex_at (l := l) (i := i) (by omega)
    refine W.op (v := .pointer (some ⟨Nl, ol + i * 3, none⟩)) (fr1 := ⟨[_,_,_,_,_,_,_,_,_,_,_,_,_,_,_,_,_,_,_, .pointer (some ⟨Nl, ol + i * 3, none⟩), _,_,_,_,_,_,_,_,_,_,_,_,_,_,_,_,_,_,_,_,_,_,_,_,_,_,_,_,_,_,_,_,_,_,_,_,_,_,_,_,_], []⟩) rfl (p_ix (Sl.ix Hl rfl rfl he20 _)) rfl rfl ?_
    refine W.op (v := .agg ⟨[.int .i64 e19.lo, .int .i64 e19.hi, .string e19.tx]⟩) (fr1 := ⟨[_,_,_,_,_,_,_,_,_,_,_,_,_,_,_,_,_,_,_,_, .agg ⟨[.int .i64 e19.lo, .int .i64 e19.hi, .string e19.tx]⟩, _,_,_,_,_,_,_,_,_,_,_,_,_,_,_,_,_,_,_,_,_,_,_,_,_,_,_,_,_,_,_,_,_,_,_,_,_,_,_,_], []⟩) rfl (p_loadA (Sl.row' (Hl.own hO6) he20) rfl rfl rfl rfl ((Hl.own hO6).get _ _ he20)) rfl rfl ?_
    obtain ⟨N21, hN22⟩ : ∃ N, N = s5.next := ⟨_, rfl⟩
    have hnl23 := fun hl => Nat.ne_of_lt (hN22 ▸ (H16.row hl).lt)
    have hb24 : s5.next ≤ N21 := hN22 ▸ (Own.refl s5).next
    refine W.new (N := N21) (vs := [.int .i64 0, .int .i64 0, .string ByteArray.empty]) (fr1 := ⟨[_,_,_,_,_,_,_,_, .pointer (some ⟨N21, 0, none⟩), _,_,_,_,_,_,_,_,_,_,_,_,_,_,_,_,_,_,_,_,_,_,_,_,_,_,_,_,_,_,_,_,_,_,_,_,_,_,_,_,_,_,_,_,_,_,_,_,_,_,_,_], []⟩) hO6 hN22 rfl (p_alloc zero97 rfl) rfl rfl ?_
    intro s25 hO26 hS27 r28 hB29
    have hE30 := (Own.refl s5).trans hS27
    refine W.store2 (cs := [.int .i64 e19.lo, .int .i64 e19.hi, .string e19.tx]) (vs' := [.int .i64 e19.lo, .int .i64 e19.hi, .string e19.tx]) (fr1 := ⟨[_,_,_,_,_,_,_,_,_,_,_,_,_,_,_,_,_,_,_,_,_,_,_,_,_,_,_,_,_,_,_,_,_,_,_,_,_,_,_,_,_,_,_,_,_,_,_,_,_,_,_,_,_,_,_,_,_,_,_,_,_], []⟩) hO26 r28 hB29 rfl rfl rfl rfl (by kernel_rfl) (by simp) (by simp [END, oneCell]) rfl rfl ?_
    intro s31 hO32 hn33 hu34 r35 hX36
    have hE37 := hX36 s5 hE30 hb24
    refine EndsOps.nil ?_
    refine Ends.seq ?_
    refine Ends.seq ?_
    refine Ends.region ?_
    refine W.op (v := .slice a10 ((mgF (l.take i)).length) cq11) (fr1 := ⟨[_,_,_,_,_,_,_,_,_,_,_,_,_,_,_,_,_,_,_,_,_, .slice a10 ((mgF (l.take i)).length) cq11, _,_,_,_,_,_,_,_,_,_,_,_,_,_,_,_,_,_,_,_,_,_,_,_,_,_,_,_,_,_,_,_,_,_,_,_,_,_,_], []⟩) rfl rfl rfl rfl ?_
    refine W.op (v := .int .i64 (((mgF (l.take i)).length : Nat) : Int)) (fr1 := ⟨[_,_,_,_,_,_,_,_,_,_,_,_,_,_,_,_,_,_,_,_,_,_, .int .i64 (((mgF (l.take i)).length : Nat) : Int), _,_,_,_,_,_,_,_,_,_,_,_,_,_,_,_,_,_,_,_,_,_,_,_,_,_,_,_,_,_,_,_,_,_,_,_,_,_], []⟩) rfl rfl rfl rfl ?_
    refine W.op (v := .int .i64 (((mgF (l.take i)).length : Nat) : Int)) (fr1 := ⟨[_,_,_,_,_,_,_,_,_, .int .i64 (((mgF (l.take i)).length : Nat) : Int), _,_,_,_,_,_,_,_,_,_,_,_,_,_,_,_,_,_,_,_,_,_,_,_,_,_,_,_,_,_,_,_,_,_,_,_,_,_,_,_,_,_,_,_,_,_,_,_,_,_,_], []⟩) rfl rfl rfl rfl ?_
    refine EndsOps.nil ?_
    refine Ends.seq ?_
    refine Ends.drawW (bef := [0, 1, 3, 7, 7, 23, 63, 127, 255, 7, 519, 2047, 4095]) (by kernel_rfl) ?_
    refine D.op (v := .int .i64 (((mgF (l.take i)).length : Nat) : Int)) (fr1 := ⟨[_,_,_,_,_,_,_,_,_,_,_,_,_,_,_,_,_,_,_,_,_,_,_, .int .i64 (((mgF (l.take i)).length : Nat) : Int), _,_,_,_,_,_,_,_,_,_,_,_,_,_,_,_,_,_,_,_,_,_,_,_,_,_,_,_,_,_,_,_,_,_,_,_,_], []⟩) rfl rfl rfl rfl rfl ?_
    by_cases h38 : (0 : Int) < (((mgF (l.take i)).length : Nat) : Int)
    · skip
      refine D.op (v := .bool true) (fr1 := ⟨[_,_,_,_,_,_,_,_,_,_,_,_,_,_,_,_,_,_,_,_,_,_,_,_, .bool true, _,_,_,_,_,_,_,_,_,_,_,_,_,_,_,_,_,_,_,_,_,_,_,_,_,_,_,_,_,_,_,_,_,_,_,_], []⟩) rfl (p_bin (gtT h38)) rfl rfl rfl ?_
      refine D.op (v := .bool true) (fr1 := ⟨[_,_,_,_,_,_,_,_,_,_,_,_,_,_,_,_,_,_,_,_,_,_,_,_,_, .bool true, _,_,_,_,_,_,_,_,_,_,_,_,_,_,_,_,_,_,_,_,_,_,_,_,_,_,_,_,_,_,_,_,_,_,_], []⟩) rfl rfl rfl rfl rfl ?_
      refine D.op (v := .slice a10 ((mgF (l.take i)).length) cq11) (fr1 := ⟨[_,_,_,_,_,_,_,_,_,_,_,_,_,_,_,_,_,_,_,_,_,_,_,_,_,_, .slice a10 ((mgF (l.take i)).length) cq11, _,_,_,_,_,_,_,_,_,_,_,_,_,_,_,_,_,_,_,_,_,_,_,_,_,_,_,_,_,_,_,_,_,_], []⟩) rfl rfl rfl rfl rfl ?_
      refine D.op (v := .int .i64 (((mgF (l.take i)).length : Nat) : Int)) (fr1 := ⟨[_,_,_,_,_,_,_,_,_,_,_,_,_,_,_,_,_,_,_,_,_,_,_,_,_,_,_, .int .i64 (((mgF (l.take i)).length : Nat) : Int), _,_,_,_,_,_,_,_,_,_,_,_,_,_,_,_,_,_,_,_,_,_,_,_,_,_,_,_,_,_,_,_,_], []⟩) rfl rfl rfl rfl rfl ?_
      obtain ⟨q39, hq40⟩ : ∃ z0 : Nat, (z0 : Int) = (((mgF (l.take i)).length : Nat) : Int) - 1 := ⟨((mgF (l.take i)).length - 1), by omega⟩
      refine D.op (v := .int .i64 ((q39 : Nat) : Int)) (fr1 := ⟨[_,_,_,_,_,_,_,_,_,_,_,_,_,_,_,_,_,_,_,_,_,_,_,_,_,_,_,_, .int .i64 ((q39 : Nat) : Int), _,_,_,_,_,_,_,_,_,_,_,_,_,_,_,_,_,_,_,_,_,_,_,_,_,_,_,_,_,_,_,_], []⟩) rfl (p_bin (subI (by omega) (by omega) (by omega))) rfl rfl rfl ?_
      obtain ⟨e41, he42⟩ := ex_at (l := (mgF (l.take i))) (i := q39) (by omega)
      refine D.op (v := .pointer (some ⟨N12, 0 + q39 * 3, none⟩)) (fr1 := ⟨[_,_,_,_,_,_,_,_,_,_,_,_,_,_,_,_,_,_,_,_,_,_,_,_,_,_,_,_,_, .pointer (some ⟨N12, 0 + q39 * 3, none⟩), _,_,_,_,_,_,_,_,_,_,_,_,_,_,_,_,_,_,_,_,_,_,_,_,_,_,_,_,_,_,_], []⟩) rfl (p_ix (Sl.ix H16 rfl rfl he42 _)) rfl rfl rfl ?_
      refine D.op (v := .pointer (some ⟨N12, 0 + q39 * 3 + 1, none⟩)) (fr1 := ⟨[_,_,_,_,_,_,_,_,_,_,_,_,_,_,_,_,_,_,_,_,_,_,_,_,_,_,_,_,_,_, .pointer (some ⟨N12, 0 + q39 * 3 + 1, none⟩), _,_,_,_,_,_,_,_,_,_,_,_,_,_,_,_,_,_,_,_,_,_,_,_,_,_,_,_,_,_], []⟩) rfl rfl rfl rfl rfl ?_
      refine D.load (v := .int .i64 e41.hi) (fr1 := ⟨[_,_,_,_,_,_,_,_,_,_,_,_,_,_,_,_,_,_,_,_,_,_,_,_,_,_,_,_,_,_,_, .int .i64 e41.hi, _,_,_,_,_,_,_,_,_,_,_,_,_,_,_,_,_,_,_,_,_,_,_,_,_,_,_,_,_], []⟩) rfl rfl rfl (fun _ h => by cases h) (fun s1 hg => (p_load1 ⟨hg.trans ((Sl.row' (H16.own hE37) he42)).get, ((Sl.row' (H16.own hE37) he42)).lt⟩ rfl rfl rfl ((H16.own hE37).at (j := 1) he42 rfl))) rfl ?_
      refine D.op (v := .pointer (some ⟨N21, 0, none⟩)) (fr1 := ⟨[_,_,_,_,_,_,_,_,_,_,_,_,_,_,_,_,_,_,_,_,_,_,_,_,_,_,_,_,_,_,_,_, .pointer (some ⟨N21, 0, none⟩), _,_,_,_,_,_,_,_,_,_,_,_,_,_,_,_,_,_,_,_,_,_,_,_,_,_,_,_], []⟩) rfl rfl rfl rfl rfl ?_
      refine D.load (v := .int .i64 e19.lo) (fr1 := ⟨[_,_,_,_,_,_,_,_,_,_,_,_,_,_,_,_,_,_,_,_,_,_,_,_,_,_,_,_,_,_,_,_,_, .int .i64 e19.lo, _,_,_,_,_,_,_,_,_,_,_,_,_,_,_,_,_,_,_,_,_,_,_,_,_,_,_], []⟩) rfl rfl rfl (fun _ h => by cases h) (fun s1 hg => (p_load1 ⟨hg.trans (r35).get, (r35).lt⟩ rfl rfl rfl rfl)) rfl ?_
      by_cases h43 : e41.hi = e19.lo
      · skip
        refine D.op (v := .bool true) (fr1 := ⟨[_,_,_,_,_,_,_,_,_,_,_,_,_,_,_,_,_,_,_,_,_,_,_,_,_,_,_,_,_,_,_,_,_,_, .bool true, _,_,_,_,_,_,_,_,_,_,_,_,_,_,_,_,_,_,_,_,_,_,_,_,_,_], []⟩) rfl (p_bin (eqT h43)) rfl rfl rfl ?_
        refine D.op (v := .bool true) (fr1 := ⟨[_,_,_,_,_,_,_,_,_,_,_,_,_,_,_,_,_,_,_,_,_,_,_,_,_,_,_,_,_,_,_,_,_,_,_, .bool true, _,_,_,_,_,_,_,_,_,_,_,_,_,_,_,_,_,_,_,_,_,_,_,_,_], []⟩) rfl rfl rfl rfl rfl ?_
        refine D.nil ?_
        refine Ends.condT rfl ?_
        refine Ends.seq ?_
        refine Ends.region ?_
        refine W.op (v := .slice a10 ((mgF (l.take i)).length) cq11) (fr1 := ⟨[_,_,_,_,_,_,_,_,_,_,_,_,_,_,_,_,_,_,_,_,_,_,_,_,_,_,_,_,_,_,_,_,_,_,_,_, .slice a10 ((mgF (l.take i)).length) cq11, _,_,_,_,_,_,_,_,_,_,_,_,_,_,_,_,_,_,_,_,_,_,_,_], []⟩) rfl rfl rfl rfl ?_
        refine W.op (v := .int .i64 (((mgF (l.take i)).length : Nat) : Int)) (fr1 := ⟨[_,_,_,_,_,_,_,_,_,_,_,_,_,_,_,_,_,_,_,_,_,_,_,_,_,_,_,_,_,_,_,_,_,_,_,_,_, .int .i64 (((mgF (l.take i)).length : Nat) : Int), _,_,_,_,_,_,_,_,_,_,_,_,_,_,_,_,_,_,_,_,_,_,_], []⟩) rfl rfl rfl rfl ?_
        refine W.op (v := .int .i64 ((q39 : Nat) : Int)) (fr1 := ⟨[_,_,_,_,_,_,_,_,_,_,_,_,_,_,_,_,_,_,_,_,_,_,_,_,_,_,_,_,_,_,_,_,_,_,_,_,_,_, .int .i64 ((q39 : Nat) : Int), _,_,_,_,_,_,_,_,_,_,_,_,_,_,_,_,_,_,_,_,_,_], []⟩) rfl (p_bin (subI (by omega) (by omega) (by omega))) rfl rfl ?_
        refine W.op (v := .pointer (some ⟨N21, 1, none⟩)) (fr1 := ⟨[_,_,_,_,_,_,_,_,_,_,_,_,_,_,_,_,_,_,_,_,_,_,_,_,_,_,_,_,_,_,_,_,_,_,_,_,_,_,_, .pointer (some ⟨N21, 1, none⟩), _,_,_,_,_,_,_,_,_,_,_,_,_,_,_,_,_,_,_,_,_], []⟩) rfl rfl rfl rfl ?_
        refine W.op (v := .int .i64 e19.hi) (fr1 := ⟨[_,_,_,_,_,_,_,_,_,_,_,_,_,_,_,_,_,_,_,_,_,_,_,_,_,_,_,_,_,_,_,_,_,_,_,_,_,_,_,_, .int .i64 e19.hi, _,_,_,_,_,_,_,_,_,_,_,_,_,_,_,_,_,_,_,_], []⟩) rfl (p_load1 r35 rfl rfl rfl rfl) rfl rfl ?_
        refine W.op (v := .pointer (some ⟨N12, 0 + q39 * 3, none⟩)) (fr1 := ⟨[_,_,_,_,_,_,_,_,_,_,_,_,_,_,_,_,_,_,_,_,_,_,_,_,_,_,_,_,_,_,_,_,_,_,_,_,_,_,_,_,_, .pointer (some ⟨N12, 0 + q39 * 3, none⟩), _,_,_,_,_,_,_,_,_,_,_,_,_,_,_,_,_,_,_], []⟩) rfl (p_ix (Sl.ix H16 rfl rfl he42 _)) rfl rfl ?_
        refine W.op (v := .pointer (some ⟨N12, 0 + q39 * 3 + 1, none⟩)) (fr1 := ⟨[_,_,_,_,_,_,_,_,_,_,_,_,_,_,_,_,_,_,_,_,_,_,_,_,_,_,_,_,_,_,_,_,_,_,_,_,_,_,_,_,_,_, .pointer (some ⟨N12, 0 + q39 * 3 + 1, none⟩), _,_,_,_,_,_,_,_,_,_,_,_,_,_,_,_,_,_], []⟩) rfl rfl rfl rfl ?_
        have hc49 := ne_nil_at he42
        obtain ⟨r44, lo45, hh46, ha47, hb48⟩ := OL.at (m := 1) (of := 1) (hol8.own hE37) (H16.own hE37) (fun _ => rfl) he42 rfl (by decide)
        obtain ⟨y50, hy51⟩ : ∃ z0 : Ed, z0 = ⟨e41.lo, e19.hi, e41.tx⟩ := ⟨_, rfl⟩
        refine W.store2 (cs := [.int .i64 e19.hi]) (fr1 := ⟨[_,_,_,_,_,_,_,_,_,_,_,_,_,_,_,_,_,_,_,_,_,_,_,_,_,_,_,_,_,_,_,_,_,_,_,_,_,_,_,_,_,_,_,_,_,_,_,_,_,_,_,_,_,_,_,_,_,_,_,_,_], []⟩) hO32 r44 lo45 rfl rfl rfl rfl (by kernel_rfl) (by simp) ⟨hh46, ha47, hb48, rfl⟩ rfl rfl ?_
        intro s52 hO53 hn54 hu55 r56 hX57
        obtain ⟨hol58, H59, hel60⟩ := OL.set (of := 1) (y' := y50) (hol8.own hE37) (H16.own hE37) (fun _ => rfl) he42 rfl (by simp) (by rw [hy51]; rfl) r56
        have r61 := r35.upd hn54 hu55 (Ne.symm (hnl23 hc49))
        refine EndsOps.nil ?_
        refine Ends.seq ?_
        refine Ends.drawE (bef := [0, 0, 2, 7, 15, 31, 0, 64, 255, 511, 1023, 2047]) (by kernel_rfl) ?_
        have gtx := mg_tx l i (by omega) _ (List.mem_of_getElem? he42)
        have gy : (B y50.tx).length = (B e41.tx).length := by rw [hy51]
        have gs := sumT_step he20
        have gl := sumT_le l (i + 1)
        refine E.op (v := .slice a10 ((mgF (l.take i)).length) cq11) (fr1 := ⟨[_,_,_,_,_,_,_,_,_,_,_,_,_,_,_,_,_,_,_,_,_,_,_,_,_,_,_,_,_,_,_,_,_,_,_,_,_,_,_,_,_,_,_, .slice a10 ((mgF (l.take i)).length) cq11, _,_,_,_,_,_,_,_,_,_,_,_,_,_,_,_,_], []⟩) rfl rfl rfl rfl rfl ?_
        refine E.op (v := .int .i64 (((mgF (l.take i)).length : Nat) : Int)) (fr1 := ⟨[_,_,_,_,_,_,_,_,_,_,_,_,_,_,_,_,_,_,_,_,_,_,_,_,_,_,_,_,_,_,_,_,_,_,_,_,_,_,_,_,_,_,_,_, .int .i64 (((mgF (l.take i)).length : Nat) : Int), _,_,_,_,_,_,_,_,_,_,_,_,_,_,_,_], []⟩) rfl rfl rfl rfl rfl ?_
        refine E.op (v := .int .i64 ((q39 : Nat) : Int)) (fr1 := ⟨[_,_,_,_,_,_,_,_,_,_,_,_,_,_,_,_,_,_,_,_,_,_,_,_,_,_,_,_,_,_,_,_,_,_,_,_,_,_,_,_,_,_,_,_,_, .int .i64 ((q39 : Nat) : Int), _,_,_,_,_,_,_,_,_,_,_,_,_,_,_], []⟩) rfl (p_bin (subI (by omega) (by omega) (by omega))) rfl rfl rfl ?_
        refine E.op (v := .pointer (some ⟨N12, 0 + q39 * 3, none⟩)) (fr1 := ⟨[_,_,_,_,_,_,_,_,_,_,_,_,_,_,_,_,_,_,_,_,_,_,_,_,_,_,_,_,_,_,_,_,_,_,_,_,_,_,_,_,_,_,_,_,_,_, .pointer (some ⟨N12, 0 + q39 * 3, none⟩), _,_,_,_,_,_,_,_,_,_,_,_,_,_], []⟩) rfl (p_ix (Sl.ixL (by simp only [List.length_set]) H59 rfl rfl hel60 _)) rfl rfl rfl ?_
        refine E.op (v := .pointer (some ⟨N12, 0 + q39 * 3 + 2, none⟩)) (fr1 := ⟨[_,_,_,_,_,_,_,_,_,_,_,_,_,_,_,_,_,_,_,_,_,_,_,_,_,_,_,_,_,_,_,_,_,_,_,_,_,_,_,_,_,_,_,_,_,_,_, .pointer (some ⟨N12, 0 + q39 * 3 + 2, none⟩), _,_,_,_,_,_,_,_,_,_,_,_,_], []⟩) rfl rfl rfl rfl rfl ?_
        refine E.load (v := .string y50.tx) (fr1 := ⟨[_,_,_,_,_,_,_,_,_,_,_,_,_,_,_,_,_,_,_,_,_,_,_,_,_,_,_,_,_,_,_,_,_,_,_,_,_,_,_,_,_,_,_,_,_,_,_,_, .string y50.tx, _,_,_,_,_,_,_,_,_,_,_,_], []⟩) rfl rfl rfl (fun _ h => by cases h) (fun s1 hg => (p_load1 ⟨hg.trans ((Sl.row' (H59.own (Own.refl s52)) hel60)).get, ((Sl.row' (H59.own (Own.refl s52)) hel60)).lt⟩ rfl rfl rfl ((H59.own (Own.refl s52)).at (j := 2) hel60 rfl))) rfl ?_
        refine E.op (v := .pointer (some ⟨N21, 2, none⟩)) (fr1 := ⟨[_,_,_,_,_,_,_,_,_,_,_,_,_,_,_,_,_,_,_,_,_,_,_,_,_,_,_,_,_,_,_,_,_,_,_,_,_,_,_,_,_,_,_,_,_,_,_,_,_, .pointer (some ⟨N21, 2, none⟩), _,_,_,_,_,_,_,_,_,_,_], []⟩) rfl rfl rfl rfl rfl ?_
        refine E.load (v := .string e19.tx) (fr1 := ⟨[_,_,_,_,_,_,_,_,_,_,_,_,_,_,_,_,_,_,_,_,_,_,_,_,_,_,_,_,_,_,_,_,_,_,_,_,_,_,_,_,_,_,_,_,_,_,_,_,_,_, .string e19.tx, _,_,_,_,_,_,_,_,_,_], []⟩) rfl rfl rfl (fun _ h => by cases h) (fun s1 hg => (p_load1 ⟨hg.trans (r61).get, (r61).lt⟩ rfl rfl rfl rfl)) rfl ?_
        refine E.op (v := .string (cat y50.tx e19.tx)) (fr1 := ⟨[_,_,_,_,_,_,_,_,_,_,_,_,_,_,_,_,_,_,_,_,_,_,_,_,_,_,_,_,_,_,_,_,_,_,_,_,_,_,_,_,_,_,_,_,_,_,_,_,_,_,_, .string (cat y50.tx e19.tx), _,_,_,_,_,_,_,_,_], []⟩) rfl (p_bin (catT (x := y50.tx) (y := e19.tx) (by omega))) rfl rfl rfl ?_
        refine E.op (v := .pointer (some ⟨N12, 0 + q39 * 3, none⟩)) (fr1 := ⟨[_,_,_,_,_,_,_,_,_,_,_,_,_,_,_,_,_,_,_,_,_,_,_,_,_,_,_,_,_,_,_,_,_,_,_,_,_,_,_,_,_,_,_,_,_,_,_,_,_,_,_,_, .pointer (some ⟨N12, 0 + q39 * 3, none⟩), _,_,_,_,_,_,_,_], []⟩) rfl (p_ix (Sl.ixL (by simp only [List.length_set]) H59 rfl rfl hel60 _)) rfl rfl rfl ?_
        refine E.op (v := .pointer (some ⟨N12, 0 + q39 * 3 + 2, none⟩)) (fr1 := ⟨[_,_,_,_,_,_,_,_,_,_,_,_,_,_,_,_,_,_,_,_,_,_,_,_,_,_,_,_,_,_,_,_,_,_,_,_,_,_,_,_,_,_,_,_,_,_,_,_,_,_,_,_,_, .pointer (some ⟨N12, 0 + q39 * 3 + 2, none⟩), _,_,_,_,_,_,_], []⟩) rfl rfl rfl rfl rfl ?_
        have hc67 := ne_nil_at hel60
        obtain ⟨r62, lo63, hh64, ha65, hb66⟩ := OL.at (m := 1) (of := 2) hol58 H59 (fun _ => rfl) hel60 rfl (by decide)
        obtain ⟨y68, hy69⟩ : ∃ z0 : Ed, z0 = ⟨y50.lo, y50.hi, cat y50.tx e19.tx⟩ := ⟨_, rfl⟩
        refine E.store (cs := [.string (cat y50.tx e19.tx)]) (fr1 := ⟨[_,_,_,_,_,_,_,_,_,_,_,_,_,_,_,_,_,_,_,_,_,_,_,_,_,_,_,_,_,_,_,_,_,_,_,_,_,_,_,_,_,_,_,_,_,_,_,_,_,_,_,_,_,_,_,_,_,_,_,_,_], []⟩) hO53 r62 lo63 rfl rfl rfl rfl (by kernel_rfl) (by simp) ⟨hh64, ha65, hb66, rfl⟩ rfl rfl rfl (by decide) ?_
        intro s70 hO71 hn72 hu73 r74 hX75
        obtain ⟨hol76, H77, hel78⟩ := OL.set (of := 2) (y' := y68) hol58 H59 (fun _ => rfl) hel60 rfl (by simp) (by rw [hy69]; rfl) r74
        have r79 := r61.upd hn72 hu73 (Ne.symm ((fun _ => hnl23 hc49) hc67))
        refine F.nil ?_
        refine Ends.exit ?_
        refine W.outT rfl ?_
        refine Ends.region ?_
        refine W.op (v := .int .i64 ((i + 1 : Nat) : Int)) (fr1 := ⟨[_,_,_,_,_,_,_,_,_,_,_,_,_,_,_,_,_,_,_,_,_,_,_,_,_,_,_,_,_,_,_,_,_,_,_,_,_,_,_,_,_,_,_,_,_,_,_,_,_,_,_,_,_,_,_,_,_,_, .int .i64 ((i + 1 : Nat) : Int), _,_], []⟩) rfl (p_bin (addI (by omega) (by omega) (by omega))) rfl rfl ?_
        refine W.op (v := .int .i64 ((i + 1 : Nat) : Int)) (fr1 := ⟨[_,_,_,_,_,_,_,_,_,_,_,_,_,_,_,_,_, .int .i64 ((i + 1 : Nat) : Int), _,_,_,_,_,_,_,_,_,_,_,_,_,_,_,_,_,_,_,_,_,_,_,_,_,_,_,_,_,_,_,_,_,_,_,_,_,_,_,_,_,_,_], []⟩) rfl rfl rfl rfl ?_
        refine EndsOps.nil ?_
        exact ⟨_, (by omega), i + 1, (.slice a10 ((mgF (l.take i)).length) cq11), (by kernel_rfl), hO71, rfl, (by rw [mgF_step he20, ← mg_touch (y := y50) (y2 := y68) he42 (by omega) h43 (by rw [hy69, hy51])]; exact hol76), by omega⟩
      · skip
        refine D.op (v := .bool false) (fr1 := ⟨[_,_,_,_,_,_,_,_,_,_,_,_,_,_,_,_,_,_,_,_,_,_,_,_,_,_,_,_,_,_,_,_,_,_, .bool false, _,_,_,_,_,_,_,_,_,_,_,_,_,_,_,_,_,_,_,_,_,_,_,_,_,_], []⟩) rfl (p_bin (eqF h43)) rfl rfl rfl ?_
        refine D.op (v := .bool false) (fr1 := ⟨[_,_,_,_,_,_,_,_,_,_,_,_,_,_,_,_,_,_,_,_,_,_,_,_,_,_,_,_,_,_,_,_,_,_,_, .bool false, _,_,_,_,_,_,_,_,_,_,_,_,_,_,_,_,_,_,_,_,_,_,_,_,_], []⟩) rfl rfl rfl rfl rfl ?_
        refine D.nil ?_
        refine Ends.condF rfl ?_
        refine Ends.skip ?_
        refine Ends.region ?_
        refine W.op (v := .slice a10 ((mgF (l.take i)).length) cq11) (fr1 := ⟨[_,_,_,_,_,_,_,_,_,_,_,_,_,_,_,_,_,_,_,_,_,_,_,_,_,_,_,_,_,_,_,_,_,_,_,_,_,_,_,_,_,_,_,_,_,_,_,_,_,_,_,_,_,_, .slice a10 ((mgF (l.take i)).length) cq11, _,_,_,_,_,_], []⟩) rfl rfl rfl rfl ?_
        refine W.op (v := .agg ⟨[.int .i64 e19.lo, .int .i64 e19.hi, .string e19.tx]⟩) (fr1 := ⟨[_,_,_,_,_,_,_,_,_,_,_,_,_,_,_,_,_,_,_,_,_,_,_,_,_,_,_,_,_,_,_,_,_,_,_,_,_,_,_,_,_,_,_,_,_,_,_,_,_,_,_,_,_,_,_, .agg ⟨[.int .i64 e19.lo, .int .i64 e19.hi, .string e19.tx]⟩, _,_,_,_,_], []⟩) rfl (p_loadA r35 rfl rfl rfl rfl rfl) rfl rfl ?_
        obtain ⟨N80, hN81⟩ : ∃ N, N = s31.next := ⟨_, rfl⟩
        have hnl82 := fun hl => Nat.ne_of_lt (hN81 ▸ ((H16.own hE37).row hl).lt)
        have hb83 : s5.next ≤ N80 := hN81 ▸ hE37.next
        refine W.newS (N := N80) (vs := [.int .i64 e19.lo, .int .i64 e19.hi, .string e19.tx]) (fr1 := ⟨[_,_,_,_,_,_,_,_,_,_,_,_,_,_,_,_,_,_,_,_,_,_,_,_,_,_,_,_,_,_,_,_,_,_,_,_,_,_,_,_,_,_,_,_,_,_,_,_,_,_,_,_,_,_,_,_, .slice (some ⟨N80, 0, none⟩) 1 1, _,_,_,_], []⟩) hO32 hN81 rfl (p_bs rfl rfl zero97 rfl (by decide) rfl rfl) rfl rfl ?_
        intro s84 hO85 hS86 r87 hB88
        have hE89 := hE37.trans hS86
        have r90 := r35.own hS86
        refine W.append (c := Ed.cells) (l := (mgF (l.take i))) (x := ⟨e19.lo, e19.hi, e19.tx⟩) (fF := fun v91 => ⟨[_,_,_,_,_,_,_,_,_,_,_,_,_,_,_,_,_,_,_,_,_,_,_,_,_,_,_,_,_,_,_,_,_,_,_,_,_,_,_,_,_,_,_,_,_,_,_,_,_,_,_,_,_,_,_,_,_, v91, _,_,_], []⟩) app22m (fun _ => rfl) (by exact Ed.one) hO85 hE89 hol8 r87 rfl rfl rfl rfl (by omega) (by omega) (fun _ => rfl) ?_
        intro v91 s92 hO93 hnx94 hu95 hol96
        have r98 : Row s92.t s92.next _ _ _ _ := ⟨(hu95 _ hb24 r90.lt).trans r90.get, Nat.lt_of_lt_of_le r90.lt hnx94⟩
        have r99 : Row s92.t s92.next _ _ _ _ := ⟨(hu95 _ hb83 r87.lt).trans r87.get, Nat.lt_of_lt_of_le r87.lt hnx94⟩
        refine W.op (v := v91) (fr1 := ⟨[_,_,_,_,_,_, v91, _,_,_,_,_,_,_,_,_,_,_,_,_,_,_,_,_,_,_,_,_,_,_,_,_,_,_,_,_,_,_,_,_,_,_,_,_,_,_,_,_,_,_,_,_,_,_,_,_,_,_,_,_,_], []⟩) rfl rfl rfl rfl ?_
        refine EndsOps.nil ?_
        refine Ends.region ?_
        refine W.op (v := .int .i64 ((i + 1 : Nat) : Int)) (fr1 := ⟨[_,_,_,_,_,_,_,_,_,_,_,_,_,_,_,_,_,_,_,_,_,_,_,_,_,_,_,_,_,_,_,_,_,_,_,_,_,_,_,_,_,_,_,_,_,_,_,_,_,_,_,_,_,_,_,_,_,_, .int .i64 ((i + 1 : Nat) : Int), _,_], []⟩) rfl (p_bin (addI (by omega) (by omega) (by omega))) rfl rfl ?_
        refine W.op (v := .int .i64 ((i + 1 : Nat) : Int)) (fr1 := ⟨[_,_,_,_,_,_,_,_,_,_,_,_,_,_,_,_,_, .int .i64 ((i + 1 : Nat) : Int), _,_,_,_,_,_,_,_,_,_,_,_,_,_,_,_,_,_,_,_,_,_,_,_,_,_,_,_,_,_,_,_,_,_,_,_,_,_,_,_,_,_,_], []⟩) rfl rfl rfl rfl ?_
        refine EndsOps.nil ?_
        exact ⟨_, (by omega), i + 1, v91, (by kernel_rfl), hO93, rfl, (by rw [mgF_step he20, ← mg_far he42 (by omega) h43]; exact hol96), by omega⟩
    · skip
      refine D.op (v := .bool false) (fr1 := ⟨[_,_,_,_,_,_,_,_,_,_,_,_,_,_,_,_,_,_,_,_,_,_,_,_, .bool false, _,_,_,_,_,_,_,_,_,_,_,_,_,_,_,_,_,_,_,_,_,_,_,_,_,_,_,_,_,_,_,_,_,_,_,_], []⟩) rfl (p_bin (gtF h38)) rfl rfl rfl ?_
      refine D.op (v := .bool false) (fr1 := ⟨[_,_,_,_,_,_,_,_,_,_,_,_,_,_,_,_,_,_,_,_,_,_,_,_,_, .bool false, _,_,_,_,_,_,_,_,_,_,_,_,_,_,_,_,_,_,_,_,_,_,_,_,_,_,_,_,_,_,_,_,_,_,_], []⟩) rfl rfl rfl rfl rfl ?_
      refine D.skip (fr1 := ⟨[_,_,_,_,_,_,_,_,_,_,_,_,_,_,_,_,_,_,_,_,_,_,_,_,_,_, undef, _,_,_,_,_,_,_,_,_,_,_,_,_,_,_,_,_,_,_,_,_,_,_,_,_,_,_,_,_,_,_,_,_,_], []⟩) rfl rfl ?_
      refine D.skip (fr1 := ⟨[_,_,_,_,_,_,_,_,_,_,_,_,_,_,_,_,_,_,_,_,_,_,_,_,_,_,_, undef, _,_,_,_,_,_,_,_,_,_,_,_,_,_,_,_,_,_,_,_,_,_,_,_,_,_,_,_,_,_,_,_,_], []⟩) rfl rfl ?_
      refine D.skip (fr1 := ⟨[_,_,_,_,_,_,_,_,_,_,_,_,_,_,_,_,_,_,_,_,_,_,_,_,_,_,_,_, undef, _,_,_,_,_,_,_,_,_,_,_,_,_,_,_,_,_,_,_,_,_,_,_,_,_,_,_,_,_,_,_,_], []⟩) rfl rfl ?_
      refine D.skip (fr1 := ⟨[_,_,_,_,_,_,_,_,_,_,_,_,_,_,_,_,_,_,_,_,_,_,_,_,_,_,_,_,_, undef, _,_,_,_,_,_,_,_,_,_,_,_,_,_,_,_,_,_,_,_,_,_,_,_,_,_,_,_,_,_,_], []⟩) rfl rfl ?_
      refine D.skip (fr1 := ⟨[_,_,_,_,_,_,_,_,_,_,_,_,_,_,_,_,_,_,_,_,_,_,_,_,_,_,_,_,_,_, undef, _,_,_,_,_,_,_,_,_,_,_,_,_,_,_,_,_,_,_,_,_,_,_,_,_,_,_,_,_,_], []⟩) rfl rfl ?_
      refine D.skip (fr1 := ⟨[_,_,_,_,_,_,_,_,_,_,_,_,_,_,_,_,_,_,_,_,_,_,_,_,_,_,_,_,_,_,_, undef, _,_,_,_,_,_,_,_,_,_,_,_,_,_,_,_,_,_,_,_,_,_,_,_,_,_,_,_,_], []⟩) rfl rfl ?_
      refine D.skip (fr1 := ⟨[_,_,_,_,_,_,_,_,_,_,_,_,_,_,_,_,_,_,_,_,_,_,_,_,_,_,_,_,_,_,_,_, undef, _,_,_,_,_,_,_,_,_,_,_,_,_,_,_,_,_,_,_,_,_,_,_,_,_,_,_,_], []⟩) rfl rfl ?_
      refine D.skip (fr1 := ⟨[_,_,_,_,_,_,_,_,_,_,_,_,_,_,_,_,_,_,_,_,_,_,_,_,_,_,_,_,_,_,_,_,_, undef, _,_,_,_,_,_,_,_,_,_,_,_,_,_,_,_,_,_,_,_,_,_,_,_,_,_,_], []⟩) rfl rfl ?_
      refine D.skip (fr1 := ⟨[_,_,_,_,_,_,_,_,_,_,_,_,_,_,_,_,_,_,_,_,_,_,_,_,_,_,_,_,_,_,_,_,_,_, undef, _,_,_,_,_,_,_,_,_,_,_,_,_,_,_,_,_,_,_,_,_,_,_,_,_,_], []⟩) rfl rfl ?_
      refine D.op (v := .bool false) (fr1 := ⟨[_,_,_,_,_,_,_,_,_,_,_,_,_,_,_,_,_,_,_,_,_,_,_,_,_,_,_,_,_,_,_,_,_,_,_, .bool false, _,_,_,_,_,_,_,_,_,_,_,_,_,_,_,_,_,_,_,_,_,_,_,_,_], []⟩) rfl rfl rfl rfl rfl ?_
      refine D.nil ?_
      refine Ends.condF rfl ?_
      refine Ends.skip ?_
      refine Ends.region ?_
      refine W.op (v := .slice a10 ((mgF (l.take i)).length) cq11) (fr1 := ⟨[_,_,_,_,_,_,_,_,_,_,_,_,_,_,_,_,_,_,_,_,_,_,_,_,_,_,_,_,_,_,_,_,_,_,_,_,_,_,_,_,_,_,_,_,_,_,_,_,_,_,_,_,_,_, .slice a10 ((mgF (l.take i)).length) cq11, _,_,_,_,_,_], []⟩) rfl rfl rfl rfl ?_
      refine W.op (v := .agg ⟨[.int .i64 e19.lo, .int .i64 e19.hi, .string e19.tx]⟩) (fr1 := ⟨[_,_,_,_,_,_,_,_,_,_,_,_,_,_,_,_,_,_,_,_,_,_,_,_,_,_,_,_,_,_,_,_,_,_,_,_,_,_,_,_,_,_,_,_,_,_,_,_,_,_,_,_,_,_,_, .agg ⟨[.int .i64 e19.lo, .int .i64 e19.hi, .string e19.tx]⟩, _,_,_,_,_], []⟩) rfl (p_loadA r35 rfl rfl rfl rfl rfl) rfl rfl ?_
      obtain ⟨N100, hN101⟩ : ∃ N, N = s31.next := ⟨_, rfl⟩
      have hnl102 := fun hl => Nat.ne_of_lt (hN101 ▸ ((H16.own hE37).row hl).lt)
      have hb103 : s5.next ≤ N100 := hN101 ▸ hE37.next
      refine W.newS (N := N100) (vs := [.int .i64 e19.lo, .int .i64 e19.hi, .string e19.tx]) (fr1 := ⟨[_,_,_,_,_,_,_,_,_,_,_,_,_,_,_,_,_,_,_,_,_,_,_,_,_,_,_,_,_,_,_,_,_,_,_,_,_,_,_,_,_,_,_,_,_,_,_,_,_,_,_,_,_,_,_,_, .slice (some ⟨N100, 0, none⟩) 1 1, _,_,_,_], []⟩) hO32 hN101 rfl (p_bs rfl rfl zero97 rfl (by decide) rfl rfl) rfl rfl ?_
      intro s104 hO105 hS106 r107 hB108
      have hE109 := hE37.trans hS106
      have r110 := r35.own hS106
      refine W.append (c := Ed.cells) (l := (mgF (l.take i))) (x := ⟨e19.lo, e19.hi, e19.tx⟩) (fF := fun v111 => ⟨[_,_,_,_,_,_,_,_,_,_,_,_,_,_,_,_,_,_,_,_,_,_,_,_,_,_,_,_,_,_,_,_,_,_,_,_,_,_,_,_,_,_,_,_,_,_,_,_,_,_,_,_,_,_,_,_,_, v111, _,_,_], []⟩) app22m (fun _ => rfl) (by exact Ed.one) hO105 hE109 hol8 r107 rfl rfl rfl rfl (by omega) (by omega) (fun _ => rfl) ?_
      intro v111 s112 hO113 hnx114 hu115 hol116
      have r118 : Row s112.t s112.next _ _ _ _ := ⟨(hu115 _ hb24 r110.lt).trans r110.get, Nat.lt_of_lt_of_le r110.lt hnx114⟩
      have r119 : Row s112.t s112.next _ _ _ _ := ⟨(hu115 _ hb103 r107.lt).trans r107.get, Nat.lt_of_lt_of_le r107.lt hnx114⟩
      refine W.op (v := v111) (fr1 := ⟨[_,_,_,_,_,_, v111, _,_,_,_,_,_,_,_,_,_,_,_,_,_,_,_,_,_,_,_,_,_,_,_,_,_,_,_,_,_,_,_,_,_,_,_,_,_,_,_,_,_,_,_,_,_,_,_,_,_,_,_,_,_], []⟩) rfl rfl rfl rfl ?_
      refine EndsOps.nil ?_
      refine Ends.region ?_
      refine W.op (v := .int .i64 ((i + 1 : Nat) : Int)) (fr1 := ⟨[_,_,_,_,_,_,_,_,_,_,_,_,_,_,_,_,_,_,_,_,_,_,_,_,_,_,_,_,_,_,_,_,_,_,_,_,_,_,_,_,_,_,_,_,_,_,_,_,_,_,_,_,_,_,_,_,_,_, .int .i64 ((i + 1 : Nat) : Int), _,_], []⟩) rfl (p_bin (addI (by omega) (by omega) (by omega))) rfl rfl ?_
      refine W.op (v := .int .i64 ((i + 1 : Nat) : Int)) (fr1 := ⟨[_,_,_,_,_,_,_,_,_,_,_,_,_,_,_,_,_, .int .i64 ((i + 1 : Nat) : Int), _,_,_,_,_,_,_,_,_,_,_,_,_,_,_,_,_,_,_,_,_,_,_,_,_,_,_,_,_,_,_,_,_,_,_,_,_,_,_,_,_,_,_], []⟩) rfl rfl rfl rfl ?_
      refine EndsOps.nil ?_
      exact ⟨_, (by omega), i + 1, v111, (by kernel_rfl), hO113, rfl, (by rw [mgF_step he20, ← mg_first (by omega)]; exact hol116), by omega⟩
  · skip
    refine W.op (v := .bool false) (fr1 := ⟨[_,_,_,_,_,_,_,_,_,_,_,_,_,_,_,_,_,_, .bool false, _,_,_,_,_,_,_,_,_,_,_,_,_,_,_,_,_,_,_,_,_,_,_,_,_,_,_,_,_,_,_,_,_,_,_,_,_,_,_,_,_,_], []⟩) rfl (p_bin (ltF h9)) rfl rfl ?_
    refine EndsOps.nil ?_
    refine Ends.seq ?_
    refine Ends.condF rfl ?_
    refine Ends.exit ?_
    refine W.outT rfl ?_
    refine Ends.seq ?_
    refine Ends.region ?_
    refine W.op (v := v) (fr1 := ⟨[_,_,_,_,_,_,_,_,_,_,_,_,_,_,_,_,_,_,_,_,_,_,_,_,_,_,_,_,_,_,_,_,_,_,_,_,_,_,_,_,_,_,_,_,_,_,_,_,_,_,_,_,_,_,_,_,_,_,_, v, _], []⟩) rfl rfl rfl rfl ?_
    obtain ⟨a120, cq121, N122, v123, y124, z125, rfl, H126, lo127, C128⟩ := hol8.sl (fun _ => rfl)
    have sm_a120 := H126.small
    refine W.callOn (ar := [.slice a120 ((mgF (l.take i)).length) cq121, .func (.func 76) ⟨[]⟩ ⟨[]⟩]) (fF := fun v129 => ⟨[_,_,_,_,_,_,_,_,_,_,_,_,_,_,_,_,_,_,_,_,_,_,_,_,_,_,_,_,_,_,_,_,_,_,_,_,_,_,_,_,_,_,_,_,_,_,_,_,_,_,_,_,_,_,_,_,_,_,_,_, v129], []⟩) rfl rfl rfl rfl (c83n _ (mgF (l.take i)) _ s _ hO6 hol8) (fun _ => rfl) ?_
    intro v129 s130 hR133 hO131 hn132
    obtain ⟨a134, cq135, N136, v137, y138, z139, rfl, H140⟩ := hR133
    refine W.op (v := .slice a134 ((rmP Nothing (mgF (l.take i))).length) cq135) (fr1 := ⟨[_,_,_,_, .slice a134 ((rmP Nothing (mgF (l.take i))).length) cq135, _,_,_,_,_,_,_,_,_,_,_,_,_,_,_,_,_,_,_,_,_,_,_,_,_,_,_,_,_,_,_,_,_,_,_,_,_,_,_,_,_,_,_,_,_,_,_,_,_,_,_,_,_,_,_,_], []⟩) rfl rfl rfl rfl ?_
    refine W.op (v := .nilIface) (fr1 := ⟨[_,_,_,_,_, .nilIface, _,_,_,_,_,_,_,_,_,_,_,_,_,_,_,_,_,_,_,_,_,_,_,_,_,_,_,_,_,_,_,_,_,_,_,_,_,_,_,_,_,_,_,_,_,_,_,_,_,_,_,_,_,_,_], []⟩) rfl rfl rfl rfl ?_
    refine EndsOps.nil ?_
    refine Ends.ret ?_
    exact ⟨rfl, rfl, hO131, (by have hm : rmP Nothing (mgF (l.take i)) = mgS l := (by rw [show i = l.length by omega, List.take_length]; rfl); have hF := H140; rw [hm] at hF; exact ⟨a134, cq135, _, _, _, _, by rw [hm]; rfl, hF⟩)⟩

theorem c51F (al : Option Addr) (l : List Ed) (cl Nl ol : Nat) (vl : List Value) (yl zl : Nat) (n : Int) (hR : ¬ Right l n) (s : St) (Hl : Sl Ed.cells 3 s.t s.next al l Nl ol vl yl zl)  : EndsPure R1.T 51 [.slice al l.length cl, .int .i64 n] s (fun v _ _ => v = .tuple ⟨[.slice none 0 0, .iface 37 (.int .i64 2)]⟩) := by
  refine EndsPure.of (rs := [4, 5]) (fr0 := ⟨[.slice al l.length cl, .int .i64 n, undef, undef, undef, undef, undef, undef, undef, undef, undef, undef, undef, undef, undef, undef, undef, undef, undef, undef, undef, undef, undef, undef, undef, undef, undef, undef, undef, undef, undef, undef, undef, undef, undef, undef, undef, undef, undef, undef, undef, undef, undef, undef, undef, undef, undef, undef, undef, undef, undef, undef, undef, undef, undef, undef, undef, undef, undef, undef, undef], []⟩) (by kernel_rfl : R1.T.fn 51 = some ⟨61, (Try.f51.body).getD .skip, [.tmp 4, .tmp 5]⟩) rfl ?_
  have hO0 := Own.refl s
  have Ml := Hl.small
  simp only [Try.f51, Option.getD]
  refine Ends.seq ?_
  refine Ends.region ?_
  refine W.op (v := .slice none 0 0) (fr1 := ⟨[_,_,_,_, .slice none 0 0, _,_,_,_,_,_,_,_,_,_,_,_,_,_,_,_,_,_,_,_,_,_,_,_,_,_,_,_,_,_,_,_,_,_,_,_,_,_,_,_,_,_,_,_,_,_,_,_,_,_,_,_,_,_,_,_], []⟩) rfl rfl rfl rfl ?_
  refine W.op (v := .nilIface) (fr1 := ⟨[_,_,_,_,_, .nilIface, _,_,_,_,_,_,_,_,_,_,_,_,_,_,_,_,_,_,_,_,_,_,_,_,_,_,_,_,_,_,_,_,_,_,_,_,_,_,_,_,_,_,_,_,_,_,_,_,_,_,_,_,_,_,_], []⟩) rfl rfl rfl rfl ?_
  refine EndsOps.nil ?_
  refine Ends.seq ?_
  refine Ends.seq ?_
  refine Ends.region ?_
  refine W.op (v := .slice al l.length cl) (fr1 := ⟨[_,_,_,_,_,_,_,_,_,_, .slice al l.length cl, _,_,_,_,_,_,_,_,_,_,_,_,_,_,_,_,_,_,_,_,_,_,_,_,_,_,_,_,_,_,_,_,_,_,_,_,_,_,_,_,_,_,_,_,_,_,_,_,_,_], []⟩) rfl rfl rfl rfl ?_
  refine W.op (v := .int .i64 n) (fr1 := ⟨[_,_,_,_,_,_,_,_,_,_,_, .int .i64 n, _,_,_,_,_,_,_,_,_,_,_,_,_,_,_,_,_,_,_,_,_,_,_,_,_,_,_,_,_,_,_,_,_,_,_,_,_,_,_,_,_,_,_,_,_,_,_,_,_], []⟩) rfl rfl rfl rfl ?_
  refine W.call (ar := [.slice al l.length cl, .int .i64 n]) (X := .bool false) (fr1 := ⟨[_,_,_,_,_,_,_,_,_,_,_,_, .bool false, _,_,_,_,_,_,_,_,_,_,_,_,_,_,_,_,_,_,_,_,_,_,_,_,_,_,_,_,_,_,_,_,_,_,_,_,_,_,_,_,_,_,_,_,_,_,_,_], []⟩) hO0 rfl rfl rfl rfl ((c35 _ _ _ _ _ _ _ _ n _ (Hl.own hO0)).mono fun v _ _ h => h.trans (congrArg Value.bool (decide_eq_false hR))) rfl ?_
  intro s1 hO2 hS3
  refine W.op (v := .bool true) (fr1 := ⟨[_,_,_,_,_,_,_,_,_,_,_,_,_, .bool true, _,_,_,_,_,_,_,_,_,_,_,_,_,_,_,_,_,_,_,_,_,_,_,_,_,_,_,_,_,_,_,_,_,_,_,_,_,_,_,_,_,_,_,_,_,_,_], []⟩) rfl rfl rfl rfl ?_
  refine EndsOps.nil ?_
  refine Ends.condT rfl ?_
  refine Ends.seq ?_
  refine Ends.region ?_
  refine W.op (v := .iface 37 (.int .i64 2)) (fr1 := ⟨[_,_,_,_,_,_,_,_,_,_,_,_,_,_, .iface 37 (.int .i64 2), _,_,_,_,_,_,_,_,_,_,_,_,_,_,_,_,_,_,_,_,_,_,_,_,_,_,_,_,_,_,_,_,_,_,_,_,_,_,_,_,_,_,_,_,_,_], []⟩) rfl rfl rfl rfl ?_
  refine W.op (v := .slice none 0 0) (fr1 := ⟨[_,_,_,_, .slice none 0 0, _,_,_,_,_,_,_,_,_,_,_,_,_,_,_,_,_,_,_,_,_,_,_,_,_,_,_,_,_,_,_,_,_,_,_,_,_,_,_,_,_,_,_,_,_,_,_,_,_,_,_,_,_,_,_,_], []⟩) rfl rfl rfl rfl ?_
  refine W.op (v := .iface 37 (.int .i64 2)) (fr1 := ⟨[_,_,_,_,_, .iface 37 (.int .i64 2), _,_,_,_,_,_,_,_,_,_,_,_,_,_,_,_,_,_,_,_,_,_,_,_,_,_,_,_,_,_,_,_,_,_,_,_,_,_,_,_,_,_,_,_,_,_,_,_,_,_,_,_,_,_,_], []⟩) rfl rfl rfl rfl ?_
  refine EndsOps.nil ?_
  refine Ends.ret ?_
  exact ⟨rfl, rfl, hO2, by
    show Value.tuple ⟨[.slice none 0 0, .iface 37 (.int .i64 2)]⟩ = Value.tuple ⟨[.slice none 0 0, .iface 37 (.int .i64 2)]⟩
    rfl⟩

theorem c52T (x : ByteArray) (hx : (B x).length ≤ 140737488351232) (al : Option Addr) (l : List Ed) (cl Nl ol : Nat) (vl : List Value) (yl zl : Nat) (hR : Right l (((B x).length : Nat) : Int)) (hB : l.length ≤ 1000000) (C : Cp 3 al l.length cl) (s : St) (Hl : Sl Ed.cells 3 s.t s.next al l Nl ol vl yl zl)  : EndsPure R1.T 52 [.string x, .slice al l.length cl] s (fun v t m => ∃ a cap N vs e hi, v = .tuple ⟨[.slice a (rmP (SameX x) l).length cap, .nilIface]⟩ ∧ Sl Ed.cells 3 t m a (rmP (SameX x) l) N 0 vs e hi) := by
  refine EndsPure.of (rs := [4, 5]) (fr0 := ⟨[.string x, .slice al l.length cl, undef, undef, undef, undef, undef, undef, undef, undef, undef, undef, undef, undef, undef, undef, undef, undef], []⟩) (by kernel_rfl : R1.T.fn 52 = some ⟨18, (Try.f52.body).getD .skip, [.tmp 4, .tmp 5]⟩) rfl ?_
  have hO0 := Own.refl s
  have Ml := Hl.small
  simp only [Try.f52, Option.getD]
  refine Ends.seq ?_
  refine Ends.region ?_
  obtain ⟨N1, hN2⟩ : ∃ N, N = s.next := ⟨_, rfl⟩
  refine W.new (N := N1) (vs := [.string x]) (fr1 := ⟨[_,_, .pointer (some ⟨N1, 0, none⟩), _,_,_,_,_,_,_,_,_,_,_,_,_,_,_], []⟩) hO0 hN2 rfl (p_box rfl) rfl rfl ?_
  intro s3 hO4 hS5 r6 hB7
  refine W.op (v := .slice none 0 0) (fr1 := ⟨[_,_,_,_, .slice none 0 0, _,_,_,_,_,_,_,_,_,_,_,_,_], []⟩) rfl rfl rfl rfl ?_
  refine W.op (v := .nilIface) (fr1 := ⟨[_,_,_,_,_, .nilIface, _,_,_,_,_,_,_,_,_,_,_,_], []⟩) rfl rfl rfl rfl ?_
  refine EndsOps.nil ?_
  refine Ends.seq ?_
  refine Ends.seq ?_
  refine Ends.region ?_
  refine W.op (v := .slice al l.length cl) (fr1 := ⟨[_,_,_,_,_,_,_, .slice al l.length cl, _,_,_,_,_,_,_,_,_,_], []⟩) rfl rfl rfl rfl ?_
  refine W.op (v := .string x) (fr1 := ⟨[_,_,_,_,_,_,_,_, .string x, _,_,_,_,_,_,_,_,_], []⟩) rfl (p_load1 r6 rfl rfl rfl rfl) rfl rfl ?_
  refine W.op (v := .int .i64 (((B x).length : Nat) : Int)) (fr1 := ⟨[_,_,_,_,_,_,_,_,_, .int .i64 (((B x).length : Nat) : Int), _,_,_,_,_,_,_,_], []⟩) rfl rfl rfl rfl ?_
  refine W.call (ar := [.slice al l.length cl, .int .i64 (((B x).length : Nat) : Int)]) (X := .bool true) (fr1 := ⟨[_,_,_,_,_,_,_,_,_,_, .bool true, _,_,_,_,_,_,_], []⟩) hO4 rfl rfl rfl rfl ((c35 _ _ _ _ _ _ _ _ (((B x).length : Nat) : Int) _ (Hl.own hO4)).mono fun v _ _ h => h.trans (congrArg Value.bool (decide_eq_true hR))) rfl ?_
  intro s8 hO9 hS10
  have r11 := r6.own hS10
  refine W.op (v := .bool false) (fr1 := ⟨[_,_,_,_,_,_,_,_,_,_,_, .bool false, _,_,_,_,_,_], []⟩) rfl rfl rfl rfl ?_
  refine EndsOps.nil ?_
  refine Ends.condF rfl ?_
  refine Ends.skip ?_
  refine Ends.seq ?_
  refine Ends.region ?_
  refine W.op (v := .func (.func 84) ⟨[]⟩ ⟨[.pointer (some ⟨N1, 0, none⟩)]⟩) (fr1 := ⟨[_,_,_,_,_,_,_,_,_,_,_,_,_, .func (.func 84) ⟨[]⟩ ⟨[.pointer (some ⟨N1, 0, none⟩)]⟩, _,_,_,_], []⟩) rfl rfl rfl rfl ?_
  refine W.op (v := .func (.func 84) ⟨[]⟩ ⟨[.pointer (some ⟨N1, 0, none⟩)]⟩) (fr1 := ⟨[_,_,_,_,_,_, .func (.func 84) ⟨[]⟩ ⟨[.pointer (some ⟨N1, 0, none⟩)]⟩, _,_,_,_,_,_,_,_,_,_,_], []⟩) rfl rfl rfl rfl ?_
  refine EndsOps.nil ?_
  refine Ends.seq ?_
  refine Ends.region ?_
  refine W.op (v := .slice al l.length cl) (fr1 := ⟨[_,_,_,_,_,_,_,_,_,_,_,_,_,_, .slice al l.length cl, _,_,_], []⟩) rfl rfl rfl rfl ?_
  refine W.callE (ar := [.slice al l.length cl]) (fF := fun v12 => ⟨[_,_,_,_,_,_,_,_,_,_,_,_,_,_,_, v12, _,_], []⟩) hO9 rfl rfl rfl rfl (c85 _ l _ _ _ _ _ _ (by omega) C _ (Hl.own hO9)) (fun _ => rfl) ?_
  intro v12 s13 hR16 hO14 hS15
  have r17 := r11.own hS15
  have hol18 := OL.le hR16 hO9.next
  refine W.op (v := .func (.func 84) ⟨[]⟩ ⟨[.pointer (some ⟨N1, 0, none⟩)]⟩) (fr1 := ⟨[_,_,_,_,_,_,_,_,_,_,_,_,_,_,_,_, .func (.func 84) ⟨[]⟩ ⟨[.pointer (some ⟨N1, 0, none⟩)]⟩, _], []⟩) rfl rfl rfl rfl ?_
  obtain ⟨a19, cq20, N21, v22, y23, z24, rfl, H25, lo26, C27⟩ := hol18.sl (fun _ => rfl)
  have sm_a19 := H25.small
  refine W.callOn (ar := [.slice a19 l.length cq20, .func (.func 84) ⟨[]⟩ ⟨[.pointer (some ⟨N1, 0, none⟩)]⟩]) (fF := fun v28 => ⟨[_,_,_,_,_,_,_,_,_,_,_,_,_,_,_,_,_, v28], []⟩) rfl rfl rfl rfl (c83w N1 0 x _ l _ s _ hO14 hol18 r17 (fun e he => right_mem hR he)) (fun _ => rfl) ?_
  intro v28 s29 hR32 hO30 hn31
  obtain ⟨a33, cq34, N35, v36, y37, z38, rfl, H39⟩ := hR32
  refine W.op (v := .slice a33 ((rmP (SameX x) l).length) cq34) (fr1 := ⟨[_,_,_,_, .slice a33 ((rmP (SameX x) l).length) cq34, _,_,_,_,_,_,_,_,_,_,_,_,_], []⟩) rfl rfl rfl rfl ?_
  refine W.op (v := .nilIface) (fr1 := ⟨[_,_,_,_,_, .nilIface, _,_,_,_,_,_,_,_,_,_,_,_], []⟩) rfl rfl rfl rfl ?_
  refine EndsOps.nil ?_
  refine Ends.ret ?_
  exact ⟨rfl, rfl, hO30, ⟨a33, cq34, _, _, _, _, rfl, H39⟩⟩

theorem c52F (x : ByteArray) (hx : (B x).length ≤ 140737488351232) (al : Option Addr) (l : List Ed) (cl Nl ol : Nat) (vl : List Value) (yl zl : Nat) (hR : ¬ Right l (((B x).length : Nat) : Int)) (s : St) (Hl : Sl Ed.cells 3 s.t s.next al l Nl ol vl yl zl)  : EndsPure R1.T 52 [.string x, .slice al l.length cl] s (fun v _ _ => v = .tuple ⟨[.slice none 0 0, .iface 37 (.int .i64 2)]⟩) := by
  refine EndsPure.of (rs := [4, 5]) (fr0 := ⟨[.string x, .slice al l.length cl, undef, undef, undef, undef, undef, undef, undef, undef, undef, undef, undef, undef, undef, undef, undef, undef], []⟩) (by kernel_rfl : R1.T.fn 52 = some ⟨18, (Try.f52.body).getD .skip, [.tmp 4, .tmp 5]⟩) rfl ?_
  have hO0 := Own.refl s
  have Ml := Hl.small
  simp only [Try.f52, Option.getD]
  refine Ends.seq ?_
  refine Ends.region ?_
  obtain ⟨N1, hN2⟩ : ∃ N, N = s.next := ⟨_, rfl⟩
  refine W.new (N := N1) (vs := [.string x]) (fr1 := ⟨[_,_, .pointer (some ⟨N1, 0, none⟩), _,_,_,_,_,_,_,_,_,_,_,_,_,_,_], []⟩) hO0 hN2 rfl (p_box rfl) rfl rfl ?_
  intro s3 hO4 hS5 r6 hB7
  refine W.op (v := .slice none 0 0) (fr1 := ⟨[_,_,_,_, .slice none 0 0, _,_,_,_,_,_,_,_,_,_,_,_,_], []⟩) rfl rfl rfl rfl ?_
  refine W.op (v := .nilIface) (fr1 := ⟨[_,_,_,_,_, .nilIface, _,_,_,_,_,_,_,_,_,_,_,_], []⟩) rfl rfl rfl rfl ?_
  refine EndsOps.nil ?_
  refine Ends.seq ?_
  refine Ends.seq ?_
  refine Ends.region ?_
  refine W.op (v := .slice al l.length cl) (fr1 := ⟨[_,_,_,_,_,_,_, .slice al l.length cl, _,_,_,_,_,_,_,_,_,_], []⟩) rfl rfl rfl rfl ?_
  refine W.op (v := .string x) (fr1 := ⟨[_,_,_,_,_,_,_,_, .string x, _,_,_,_,_,_,_,_,_], []⟩) rfl (p_load1 r6 rfl rfl rfl rfl) rfl rfl ?_
  refine W.op (v := .int .i64 (((B x).length : Nat) : Int)) (fr1 := ⟨[_,_,_,_,_,_,_,_,_, .int .i64 (((B x).length : Nat) : Int), _,_,_,_,_,_,_,_], []⟩) rfl rfl rfl rfl ?_
  refine W.call (ar := [.slice al l.length cl, .int .i64 (((B x).length : Nat) : Int)]) (X := .bool false) (fr1 := ⟨[_,_,_,_,_,_,_,_,_,_, .bool false, _,_,_,_,_,_,_], []⟩) hO4 rfl rfl rfl rfl ((c35 _ _ _ _ _ _ _ _ (((B x).length : Nat) : Int) _ (Hl.own hO4)).mono fun v _ _ h => h.trans (congrArg Value.bool (decide_eq_false hR))) rfl ?_
  intro s8 hO9 hS10
  have r11 := r6.own hS10
  refine W.op (v := .bool true) (fr1 := ⟨[_,_,_,_,_,_,_,_,_,_,_, .bool true, _,_,_,_,_,_], []⟩) rfl rfl rfl rfl ?_
  refine EndsOps.nil ?_
  refine Ends.condT rfl ?_
  refine Ends.seq ?_
  refine Ends.region ?_
  refine W.op (v := .iface 37 (.int .i64 2)) (fr1 := ⟨[_,_,_,_,_,_,_,_,_,_,_,_, .iface 37 (.int .i64 2), _,_,_,_,_], []⟩) rfl rfl rfl rfl ?_
  refine W.op (v := .slice none 0 0) (fr1 := ⟨[_,_,_,_, .slice none 0 0, _,_,_,_,_,_,_,_,_,_,_,_,_], []⟩) rfl rfl rfl rfl ?_
  refine W.op (v := .iface 37 (.int .i64 2)) (fr1 := ⟨[_,_,_,_,_, .iface 37 (.int .i64 2), _,_,_,_,_,_,_,_,_,_,_,_], []⟩) rfl rfl rfl rfl ?_
  refine EndsOps.nil ?_
  refine Ends.ret ?_
  exact ⟨rfl, rfl, hO9, by
    show Value.tuple ⟨[.slice none 0 0, .iface 37 (.int .i64 2)]⟩ = Value.tuple ⟨[.slice none 0 0, .iface 37 (.int .i64 2)]⟩
    rfl⟩

theorem c53 (al : Option Addr) (l : List Ed) (cl Nl ol : Nat) (vl : List Value) (yl zl : Nat) (hT : sumT l ≤ 1000000) (hB : l.length ≤ 1000000) (s : St) (Hl : Sl Ed.cells 3 s.t s.next al l Nl ol vl yl zl)  : EndsPure R1.T 53 [.slice al l.length cl] s (fun v t m => OL Ed.cells 3 97 s.next t m v (keptR (mgF l))) := by
  refine EndsPure.of (rs := [2]) (fr0 := ⟨[.slice al l.length cl, undef, undef, undef, undef, undef, undef, undef, undef, undef, undef, undef, undef, undef, undef, undef, undef, undef, undef, undef, undef, undef, undef, undef, undef, undef, undef, undef, undef, undef, undef, undef, undef, undef, undef, undef, undef, undef, undef, undef, undef, undef, undef, undef, undef, undef, undef, undef, undef, undef, undef, undef, undef, undef, undef, undef, undef, undef, undef, undef, undef, undef, undef, undef], []⟩) (by kernel_rfl : R1.T.fn 53 = some ⟨64, (Try.f53.body).getD .skip, [.tmp 2]⟩) rfl ?_
  have hO0 := Own.refl s
  have Ml := Hl.small
  simp only [Try.f53, Option.getD]
  refine Ends.seq ?_
  refine Ends.region ?_
  refine W.op (v := .slice none 0 0) (fr1 := ⟨[_,_, .slice none 0 0, _,_,_,_,_,_,_,_,_,_,_,_,_,_,_,_,_,_,_,_,_,_,_,_,_,_,_,_,_,_,_,_,_,_,_,_,_,_,_,_,_,_,_,_,_,_,_,_,_,_,_,_,_,_,_,_,_,_,_,_,_], []⟩) rfl rfl rfl rfl ?_
  refine EndsOps.nil ?_
  refine Ends.seq ?_
  refine Ends.region ?_
  refine W.op (v := .slice none 0 0) (fr1 := ⟨[_,_,_, .slice none 0 0, _,_,_,_,_,_,_,_,_,_,_,_,_,_,_,_,_,_,_,_,_,_,_,_,_,_,_,_,_,_,_,_,_,_,_,_,_,_,_,_,_,_,_,_,_,_,_,_,_,_,_,_,_,_,_,_,_,_,_,_], []⟩) rfl rfl rfl rfl ?_
  refine EndsOps.nil ?_
  refine Ends.seq ?_
  refine Ends.seq ?_
  refine Ends.region ?_
  refine W.op (v := .int .i64 0) (fr1 := ⟨[_,_,_,_, .int .i64 0, _,_,_,_,_,_,_,_,_,_,_,_,_,_,_,_,_,_,_,_,_,_,_,_,_,_,_,_,_,_,_,_,_,_,_,_,_,_,_,_,_,_,_,_,_,_,_,_,_,_,_,_,_,_,_,_,_,_,_], []⟩) rfl rfl rfl rfl ?_
  refine EndsOps.nil ?_
  refine W.block ?_
  refine Ends.loopJ (fun d jf1 fr s1 => ∃ (i : Nat) (o : List Ed) (v : Value), fr = ⟨[.slice al l.length cl, undef, .slice none 0 0, v, .int .i64 ((i : Nat) : Int), (jf1 5), (jf1 6), (jf1 7), (jf1 8), (jf1 9), (jf1 10), (jf1 11), (jf1 12), (jf1 13), (jf1 14), (jf1 15), (jf1 16), (jf1 17), (jf1 18), (jf1 19), (jf1 20), (jf1 21), (jf1 22), (jf1 23), (jf1 24), (jf1 25), (jf1 26), (jf1 27), (jf1 28), (jf1 29), (jf1 30), (jf1 31), (jf1 32), (jf1 33), (jf1 34), (jf1 35), (jf1 36), (jf1 37), (jf1 38), (jf1 39), (jf1 40), (jf1 41), (jf1 42), (jf1 43), (jf1 44), (jf1 45), (jf1 46), (jf1 47), (jf1 48), (jf1 49), (jf1 50), (jf1 51), (jf1 52), (jf1 53), (jf1 54), (jf1 55), (jf1 56), (jf1 57), (jf1 58), (jf1 59), (jf1 60), (jf1 61), (jf1 62), undef], []⟩ ∧ Own s s1 ∧ d = l.length - i ∧ (OL Ed.cells 3 97 s.next s1.t s1.next v o) ∧ (i ≤ l.length) ∧ (o = keptR (mgF (l.take i))) ∧ (o.length ≤ i) ∧ (∀ e a, l[i]? = some e → (mgF (l.take i)).getLast? = some a → ¬ a.hi = e.lo)) ?_ _ _ _ ⟨0, [], .slice none 0 0, (by kernel_rfl), hO0, rfl, OL.nil, Nat.zero_le _, rfl, Nat.le_refl _, (fun e a _ ha => by simp [mgF] at ha)⟩
  rintro d jf1 _ s2 ⟨i, o, v, rfl, hO3, hd4, hol5, hi, ho, hol9, hgo⟩
  refine Ends.seq ?_
  refine Ends.seq ?_
  refine Ends.region ?_
  refine W.op (v := .int .i64 ((i : Nat) : Int)) (fr1 := ⟨[_,_,_,_,_,_, .int .i64 ((i : Nat) : Int), _,_,_,_,_,_,_,_,_,_,_,_,_,_,_,_,_,_,_,_,_,_,_,_,_,_,_,_,_,_,_,_,_,_,_,_,_,_,_,_,_,_,_,_,_,_,_,_,_,_,_,_,_,_,_,_,_], []⟩) rfl rfl rfl rfl ?_
  refine W.op (v := .slice al l.length cl) (fr1 := ⟨[_,_,_,_,_,_,_, .slice al l.length cl, _,_,_,_,_,_,_,_,_,_,_,_,_,_,_,_,_,_,_,_,_,_,_,_,_,_,_,_,_,_,_,_,_,_,_,_,_,_,_,_,_,_,_,_,_,_,_,_,_,_,_,_,_,_,_,_], []⟩) rfl rfl rfl rfl ?_
  refine W.op (v := .int .i64 ((l.length : Nat) : Int)) (fr1 := ⟨[_,_,_,_,_,_,_,_, .int .i64 ((l.length : Nat) : Int), _,_,_,_,_,_,_,_,_,_,_,_,_,_,_,_,_,_,_,_,_,_,_,_,_,_,_,_,_,_,_,_,_,_,_,_,_,_,_,_,_,_,_,_,_,_,_,_,_,_,_,_,_,_,_], []⟩) rfl rfl rfl rfl ?_
  by_cases h6 : ((i : Nat) : Int) < ((l.length : Nat) : Int)
  · skip
    refine W.op (v := .bool true) (fr1 := ⟨[_,_,_,_,_,_,_,_,_, .bool true, _,_,_,_,_,_,_,_,_,_,_,_,_,_,_,_,_,_,_,_,_,_,_,_,_,_,_,_,_,_,_,_,_,_,_,_,_,_,_,_,_,_,_,_,_,_,_,_,_,_,_,_,_,_], []⟩) rfl (p_bin (ltT h6)) rfl rfl ?_
    refine EndsOps.nil ?_
    refine Ends.condT rfl ?_
    refine Ends.skip ?_
    refine W.block ?_
    refine Ends.seq ?_
    refine Ends.region ?_
    refine W.op (v := .slice al l.length cl) (fr1 := ⟨[_,_,_,_,_,_,_,_,_,_, .slice al l.length cl, _,_,_,_,_,_,_,_,_,_,_,_,_,_,_,_,_,_,_,_,_,_,_,_,_,_,_,_,_,_,_,_,_,_,_,_,_,_,_,_,_,_,_,_,_,_,_,_,_,_,_,_,_], []⟩) rfl rfl rfl rfl ?_
    refine W.op (v := .int .i64 ((i : Nat) : Int)) (fr1 := ⟨[_,_,_,_,_,_,_,_,_,_,_, .int .i64 ((i : Nat) : Int), _,_,_,_,_,_,_,_,_,_,_,_,_,_,_,_,_,_,_,_,_,_,_,_,_,_,_,_,_,_,_,_,_,_,_,_,_,_,_,_,_,_,_,_,_,_,_,_,_,_,_,_], []⟩) rfl rfl rfl rfl ?_
    obtain ⟨e7, he8⟩ := ex_at (l := l) (i := i) (by omega)
    refine W.op (v := .pointer (some ⟨Nl, ol + i * 3, none⟩)) (fr1 := ⟨[_,_,_,_,_,_,_,_,_,_,_,_, .pointer (some ⟨Nl, ol + i * 3, none⟩), _,_,_,_,_,_,_,_,_,_,_,_,_,_,_,_,_,_,_,_,_,_,_,_,_,_,_,_,_,_,_,_,_,_,_,_,_,_,_,_,_,_,_,_,_,_,_,_,_,_,_], []⟩) rfl (p_ix (Sl.ix Hl rfl rfl he8 _)) rfl rfl ?_
    refine W.op (v := .agg ⟨[.int .i64 e7.lo, .int .i64 e7.hi, .string e7.tx]⟩) (fr1 := ⟨[_,_,_,_,_,_,_,_,_,_,_,_,_, .agg ⟨[.int .i64 e7.lo, .int .i64 e7.hi, .string e7.tx]⟩, _,_,_,_,_,_,_,_,_,_,_,_,_,_,_,_,_,_,_,_,_,_,_,_,_,_,_,_,_,_,_,_,_,_,_,_,_,_,_,_,_,_,_,_,_,_,_,_,_,_], []⟩) rfl (p_loadA (Sl.row' (Hl.own hO3) he8) rfl rfl rfl rfl ((Hl.own hO3).get _ _ he8)) rfl rfl ?_
    obtain ⟨N9, hN10⟩ : ∃ N, N = s2.next := ⟨_, rfl⟩
    have hb11 : s2.next ≤ N9 := hN10 ▸ (Own.refl s2).next
    refine W.new (N := N9) (vs := [.int .i64 0, .int .i64 0, .string ByteArray.empty]) (fr1 := ⟨[_,_,_,_,_, .pointer (some ⟨N9, 0, none⟩), _,_,_,_,_,_,_,_,_,_,_,_,_,_,_,_,_,_,_,_,_,_,_,_,_,_,_,_,_,_,_,_,_,_,_,_,_,_,_,_,_,_,_,_,_,_,_,_,_,_,_,_,_,_,_,_,_,_], []⟩) hO3 hN10 rfl (p_alloc zero97 rfl) rfl rfl ?_
    intro s12 hO13 hS14 r15 hB16
    have hE17 := (Own.refl s2).trans hS14
    refine W.store2 (cs := [.int .i64 e7.lo, .int .i64 e7.hi, .string e7.tx]) (vs' := [.int .i64 e7.lo, .int .i64 e7.hi, .string e7.tx]) (fr1 := ⟨[_,_,_,_,_,_,_,_,_,_,_,_,_,_,_,_,_,_,_,_,_,_,_,_,_,_,_,_,_,_,_,_,_,_,_,_,_,_,_,_,_,_,_,_,_,_,_,_,_,_,_,_,_,_,_,_,_,_,_,_,_,_,_,_], []⟩) hO13 r15 hB16 rfl rfl rfl rfl (by kernel_rfl) (by simp) (by simp [END, oneCell]) rfl rfl ?_
    intro s18 hO19 hn20 hu21 r22 hX23
    have hE24 := hX23 s2 hE17 hb11
    refine EndsOps.nil ?_
    refine Ends.seq ?_
    refine Ends.region ?_
    refine W.op (v := .int .i64 ((i : Nat) : Int)) (fr1 := ⟨[_,_,_,_,_,_,_,_,_,_,_,_,_,_, .int .i64 ((i : Nat) : Int), _,_,_,_,_,_,_,_,_,_,_,_,_,_,_,_,_,_,_,_,_,_,_,_,_,_,_,_,_,_,_,_,_,_,_,_,_,_,_,_,_,_,_,_,_,_,_,_,_], []⟩) rfl rfl rfl rfl ?_
    refine W.op (v := .int .i64 ((i + 1 : Nat) : Int)) (fr1 := ⟨[_,_,_,_,_,_,_,_,_,_,_,_,_,_,_, .int .i64 ((i + 1 : Nat) : Int), _,_,_,_,_,_,_,_,_,_,_,_,_,_,_,_,_,_,_,_,_,_,_,_,_,_,_,_,_,_,_,_,_,_,_,_,_,_,_,_,_,_,_,_,_,_,_,_], []⟩) rfl (p_bin (addI (by omega) (by omega) (by omega))) rfl rfl ?_
    refine W.op (v := .int .i64 ((i + 1 : Nat) : Int)) (fr1 := ⟨[_,_,_,_, .int .i64 ((i + 1 : Nat) : Int), _,_,_,_,_,_,_,_,_,_,_,_,_,_,_,_,_,_,_,_,_,_,_,_,_,_,_,_,_,_,_,_,_,_,_,_,_,_,_,_,_,_,_,_,_,_,_,_,_,_,_,_,_,_,_,_,_,_,_], []⟩) rfl rfl rfl rfl ?_
    refine EndsOps.nil ?_
    refine Ends.seq ?_
    refine W.block ?_
    refine Ends.loopJ (fun d jf25 fr s1 => ∃ (j : Nat) (e : Ed) (pre : List Ed), fr = ⟨[.slice al l.length cl, undef, .slice none 0 0, v, .int .i64 ((j : Nat) : Int), .pointer (some ⟨N9, 0, none⟩), .int .i64 ((i : Nat) : Int), .slice al l.length cl, .int .i64 ((l.length : Nat) : Int), .bool true, .slice al l.length cl, .int .i64 ((i : Nat) : Int), .pointer (some ⟨Nl, ol + i * 3, none⟩), .agg ⟨[.int .i64 e7.lo, .int .i64 e7.hi, .string e7.tx]⟩, .int .i64 ((i : Nat) : Int), .int .i64 ((i + 1 : Nat) : Int), (jf25 16), (jf25 17), (jf25 18), (jf25 19), (jf25 20), (jf25 21), (jf25 22), (jf25 23), (jf25 24), (jf25 25), (jf25 26), (jf25 27), (jf25 28), (jf25 29), (jf25 30), (jf25 31), (jf25 32), (jf25 33), (jf25 34), (jf25 35), (jf25 36), (jf25 37), (jf25 38), (jf25 39), (jf25 40), (jf25 41), (jf25 42), (jf25 43), (jf25 44), (jf25 45), (jf25 46), (jf25 47), (jf1 48), (jf1 49), (jf1 50), (jf1 51), (jf1 52), (jf1 53), (jf1 54), (jf1 55), (jf1 56), (jf1 57), (jf1 58), (jf1 59), (jf1 60), (jf1 61), (jf1 62), undef], []⟩ ∧ Own s s1 ∧ d = l.length - j ∧ Own s2 s1 ∧ (i < j) ∧ (j ≤ l.length) ∧ (mgF (l.take j) = pre ++ [e]) ∧ (o = keptR pre) ∧ (Row s1.t s1.next N9 [.int .i64 e.lo, .int .i64 e.hi, .string e.tx] 97 0)) ?_ _ _ _ ⟨i + 1, e7, (mgF (l.take i)), (by kernel_rfl), hO19, rfl, hE24, Nat.lt_succ_self _, by omega, (by rw [mgF_step he8]; exact mg_sep fun a ha => hgo _ a he8 ha), ho, r22⟩
    rintro d jf25 _ s26 ⟨j, e, pre, rfl, hO27, hd28, hE29, hij, hj, hpre, hop, hr5⟩
    refine Ends.seq ?_
    refine Ends.seq ?_
    refine Ends.drawW (bef := [0, 0, 2, 7, 15, 31, 31, 127, 255, 511, 31, 1055, 4095, 8191]) (by kernel_rfl) ?_
    refine D.op (v := .int .i64 ((j : Nat) : Int)) (fr1 := ⟨[_,_,_,_,_,_,_,_,_,_,_,_,_,_,_,_, .int .i64 ((j : Nat) : Int), _,_,_,_,_,_,_,_,_,_,_,_,_,_,_,_,_,_,_,_,_,_,_,_,_,_,_,_,_,_,_,_,_,_,_,_,_,_,_,_,_,_,_,_,_,_,_], []⟩) rfl rfl rfl rfl rfl ?_
    refine D.op (v := .slice al l.length cl) (fr1 := ⟨[_,_,_,_,_,_,_,_,_,_,_,_,_,_,_,_,_, .slice al l.length cl, _,_,_,_,_,_,_,_,_,_,_,_,_,_,_,_,_,_,_,_,_,_,_,_,_,_,_,_,_,_,_,_,_,_,_,_,_,_,_,_,_,_,_,_,_,_], []⟩) rfl rfl rfl rfl rfl ?_
    refine D.op (v := .int .i64 ((l.length : Nat) : Int)) (fr1 := ⟨[_,_,_,_,_,_,_,_,_,_,_,_,_,_,_,_,_,_, .int .i64 ((l.length : Nat) : Int), _,_,_,_,_,_,_,_,_,_,_,_,_,_,_,_,_,_,_,_,_,_,_,_,_,_,_,_,_,_,_,_,_,_,_,_,_,_,_,_,_,_,_,_,_], []⟩) rfl rfl rfl rfl rfl ?_
    by_cases h30 : ((j : Nat) : Int) < ((l.length : Nat) : Int)
    · skip
      refine D.op (v := .bool true) (fr1 := ⟨[_,_,_,_,_,_,_,_,_,_,_,_,_,_,_,_,_,_,_, .bool true, _,_,_,_,_,_,_,_,_,_,_,_,_,_,_,_,_,_,_,_,_,_,_,_,_,_,_,_,_,_,_,_,_,_,_,_,_,_,_,_,_,_,_,_], []⟩) rfl (p_bin (ltT h30)) rfl rfl rfl ?_
      refine D.op (v := .bool true) (fr1 := ⟨[_,_,_,_,_,_,_,_,_,_,_,_,_,_,_,_,_,_,_,_, .bool true, _,_,_,_,_,_,_,_,_,_,_,_,_,_,_,_,_,_,_,_,_,_,_,_,_,_,_,_,_,_,_,_,_,_,_,_,_,_,_,_,_,_,_], []⟩) rfl rfl rfl rfl rfl ?_
      refine D.op (v := .slice al l.length cl) (fr1 := ⟨[_,_,_,_,_,_,_,_,_,_,_,_,_,_,_,_,_,_,_,_,_, .slice al l.length cl, _,_,_,_,_,_,_,_,_,_,_,_,_,_,_,_,_,_,_,_,_,_,_,_,_,_,_,_,_,_,_,_,_,_,_,_,_,_,_,_,_,_], []⟩) rfl rfl rfl rfl rfl ?_
      refine D.op (v := .int .i64 ((j : Nat) : Int)) (fr1 := ⟨[_,_,_,_,_,_,_,_,_,_,_,_,_,_,_,_,_,_,_,_,_,_, .int .i64 ((j : Nat) : Int), _,_,_,_,_,_,_,_,_,_,_,_,_,_,_,_,_,_,_,_,_,_,_,_,_,_,_,_,_,_,_,_,_,_,_,_,_,_,_,_,_], []⟩) rfl rfl rfl rfl rfl ?_
      obtain ⟨e31, he32⟩ := ex_at (l := l) (i := j) (by omega)
      refine D.op (v := .pointer (some ⟨Nl, ol + j * 3, none⟩)) (fr1 := ⟨[_,_,_,_,_,_,_,_,_,_,_,_,_,_,_,_,_,_,_,_,_,_,_, .pointer (some ⟨Nl, ol + j * 3, none⟩), _,_,_,_,_,_,_,_,_,_,_,_,_,_,_,_,_,_,_,_,_,_,_,_,_,_,_,_,_,_,_,_,_,_,_,_,_,_,_,_], []⟩) rfl (p_ix (Sl.ix Hl rfl rfl he32 _)) rfl rfl rfl ?_
      refine D.op (v := .pointer (some ⟨Nl, ol + j * 3 + 0, none⟩)) (fr1 := ⟨[_,_,_,_,_,_,_,_,_,_,_,_,_,_,_,_,_,_,_,_,_,_,_,_, .pointer (some ⟨Nl, ol + j * 3 + 0, none⟩), _,_,_,_,_,_,_,_,_,_,_,_,_,_,_,_,_,_,_,_,_,_,_,_,_,_,_,_,_,_,_,_,_,_,_,_,_,_,_], []⟩) rfl rfl rfl rfl rfl ?_
      refine D.load (v := .int .i64 e31.lo) (fr1 := ⟨[_,_,_,_,_,_,_,_,_,_,_,_,_,_,_,_,_,_,_,_,_,_,_,_,_, .int .i64 e31.lo, _,_,_,_,_,_,_,_,_,_,_,_,_,_,_,_,_,_,_,_,_,_,_,_,_,_,_,_,_,_,_,_,_,_,_,_,_,_], []⟩) rfl rfl rfl (fun _ h => by cases h) (fun s1 hg => (p_load1 ⟨hg.trans ((Sl.row' (Hl.own hO27) he32)).get, ((Sl.row' (Hl.own hO27) he32)).lt⟩ rfl rfl rfl ((Hl.own hO27).at (j := 0) he32 rfl))) rfl ?_
      refine D.op (v := .pointer (some ⟨N9, 1, none⟩)) (fr1 := ⟨[_,_,_,_,_,_,_,_,_,_,_,_,_,_,_,_,_,_,_,_,_,_,_,_,_,_, .pointer (some ⟨N9, 1, none⟩), _,_,_,_,_,_,_,_,_,_,_,_,_,_,_,_,_,_,_,_,_,_,_,_,_,_,_,_,_,_,_,_,_,_,_,_,_], []⟩) rfl rfl rfl rfl rfl ?_
      refine D.load (v := .int .i64 e.hi) (fr1 := ⟨[_,_,_,_,_,_,_,_,_,_,_,_,_,_,_,_,_,_,_,_,_,_,_,_,_,_,_, .int .i64 e.hi, _,_,_,_,_,_,_,_,_,_,_,_,_,_,_,_,_,_,_,_,_,_,_,_,_,_,_,_,_,_,_,_,_,_,_,_], []⟩) rfl rfl rfl (fun _ h => by cases h) (fun s1 hg => (p_load1 ⟨hg.trans (hr5).get, (hr5).lt⟩ rfl rfl rfl rfl)) rfl ?_
      by_cases h33 : e31.lo = e.hi
      · skip
        refine D.op (v := .bool true) (fr1 := ⟨[_,_,_,_,_,_,_,_,_,_,_,_,_,_,_,_,_,_,_,_,_,_,_,_,_,_,_,_, .bool true, _,_,_,_,_,_,_,_,_,_,_,_,_,_,_,_,_,_,_,_,_,_,_,_,_,_,_,_,_,_,_,_,_,_,_], []⟩) rfl (p_bin (eqT h33)) rfl rfl rfl ?_
        refine D.op (v := .bool true) (fr1 := ⟨[_,_,_,_,_,_,_,_,_,_,_,_,_,_,_,_,_,_,_,_,_,_,_,_,_,_,_,_,_, .bool true, _,_,_,_,_,_,_,_,_,_,_,_,_,_,_,_,_,_,_,_,_,_,_,_,_,_,_,_,_,_,_,_,_,_], []⟩) rfl rfl rfl rfl rfl ?_
        refine D.nil ?_
        refine Ends.condT rfl ?_
        refine Ends.skip ?_
        refine W.block ?_
        refine Ends.seq ?_
        refine Ends.drawE (bef := [0, 1, 0, 0, 12, 28, 60, 0, 128, 0, 0, 1536, 3584, 7680, 16256, 32767, 65535]) (by kernel_rfl) ?_
        have gtx := mg_tx l j (by omega) e (by rw [hpre]; simp)
        have gs := sumT_step he32
        have gl := sumT_le l (j + 1)
        refine E.op (v := .pointer (some ⟨N9, 0, none⟩)) (fr1 := ⟨[_,_,_,_,_,_,_,_,_,_,_,_,_,_,_,_,_,_,_,_,_,_,_,_,_,_,_,_,_,_, .pointer (some ⟨N9, 0, none⟩), _,_,_,_,_,_,_,_,_,_,_,_,_,_,_,_,_,_,_,_,_,_,_,_,_,_,_,_,_,_,_,_,_], []⟩) rfl rfl rfl rfl rfl ?_
        refine E.load (v := .int .i64 e.lo) (fr1 := ⟨[_,_,_,_,_,_,_,_,_,_,_,_,_,_,_,_,_,_,_,_,_,_,_,_,_,_,_,_,_,_,_, .int .i64 e.lo, _,_,_,_,_,_,_,_,_,_,_,_,_,_,_,_,_,_,_,_,_,_,_,_,_,_,_,_,_,_,_,_], []⟩) rfl rfl rfl (fun _ h => by cases h) (fun s1 hg => (p_load1 ⟨hg.trans (hr5).get, (hr5).lt⟩ rfl rfl rfl rfl)) rfl ?_
        refine E.op (v := .slice al l.length cl) (fr1 := ⟨[_,_,_,_,_,_,_,_,_,_,_,_,_,_,_,_,_,_,_,_,_,_,_,_,_,_,_,_,_,_,_,_, .slice al l.length cl, _,_,_,_,_,_,_,_,_,_,_,_,_,_,_,_,_,_,_,_,_,_,_,_,_,_,_,_,_,_,_], []⟩) rfl rfl rfl rfl rfl ?_
        refine E.op (v := .int .i64 ((j : Nat) : Int)) (fr1 := ⟨[_,_,_,_,_,_,_,_,_,_,_,_,_,_,_,_,_,_,_,_,_,_,_,_,_,_,_,_,_,_,_,_,_, .int .i64 ((j : Nat) : Int), _,_,_,_,_,_,_,_,_,_,_,_,_,_,_,_,_,_,_,_,_,_,_,_,_,_,_,_,_,_], []⟩) rfl rfl rfl rfl rfl ?_
        refine E.op (v := .pointer (some ⟨Nl, ol + j * 3, none⟩)) (fr1 := ⟨[_,_,_,_,_,_,_,_,_,_,_,_,_,_,_,_,_,_,_,_,_,_,_,_,_,_,_,_,_,_,_,_,_,_, .pointer (some ⟨Nl, ol + j * 3, none⟩), _,_,_,_,_,_,_,_,_,_,_,_,_,_,_,_,_,_,_,_,_,_,_,_,_,_,_,_,_], []⟩) rfl (p_ix (Sl.ix Hl rfl rfl he32 _)) rfl rfl rfl ?_
        refine E.op (v := .pointer (some ⟨Nl, ol + j * 3 + 1, none⟩)) (fr1 := ⟨[_,_,_,_,_,_,_,_,_,_,_,_,_,_,_,_,_,_,_,_,_,_,_,_,_,_,_,_,_,_,_,_,_,_,_, .pointer (some ⟨Nl, ol + j * 3 + 1, none⟩), _,_,_,_,_,_,_,_,_,_,_,_,_,_,_,_,_,_,_,_,_,_,_,_,_,_,_,_], []⟩) rfl rfl rfl rfl rfl ?_
        refine E.load (v := .int .i64 e31.hi) (fr1 := ⟨[_,_,_,_,_,_,_,_,_,_,_,_,_,_,_,_,_,_,_,_,_,_,_,_,_,_,_,_,_,_,_,_,_,_,_,_, .int .i64 e31.hi, _,_,_,_,_,_,_,_,_,_,_,_,_,_,_,_,_,_,_,_,_,_,_,_,_,_,_], []⟩) rfl rfl rfl (fun _ h => by cases h) (fun s1 hg => (p_load1 ⟨hg.trans ((Sl.row' (Hl.own hO27) he32)).get, ((Sl.row' (Hl.own hO27) he32)).lt⟩ rfl rfl rfl ((Hl.own hO27).at (j := 1) he32 rfl))) rfl ?_
        refine E.op (v := .pointer (some ⟨N9, 2, none⟩)) (fr1 := ⟨[_,_,_,_,_,_,_,_,_,_,_,_,_,_,_,_,_,_,_,_,_,_,_,_,_,_,_,_,_,_,_,_,_,_,_,_,_, .pointer (some ⟨N9, 2, none⟩), _,_,_,_,_,_,_,_,_,_,_,_,_,_,_,_,_,_,_,_,_,_,_,_,_,_], []⟩) rfl rfl rfl rfl rfl ?_
        refine E.load (v := .string e.tx) (fr1 := ⟨[_,_,_,_,_,_,_,_,_,_,_,_,_,_,_,_,_,_,_,_,_,_,_,_,_,_,_,_,_,_,_,_,_,_,_,_,_,_, .string e.tx, _,_,_,_,_,_,_,_,_,_,_,_,_,_,_,_,_,_,_,_,_,_,_,_,_], []⟩) rfl rfl rfl (fun _ h => by cases h) (fun s1 hg => (p_load1 ⟨hg.trans (hr5).get, (hr5).lt⟩ rfl rfl rfl rfl)) rfl ?_
        refine E.op (v := .slice al l.length cl) (fr1 := ⟨[_,_,_,_,_,_,_,_,_,_,_,_,_,_,_,_,_,_,_,_,_,_,_,_,_,_,_,_,_,_,_,_,_,_,_,_,_,_,_, .slice al l.length cl, _,_,_,_,_,_,_,_,_,_,_,_,_,_,_,_,_,_,_,_,_,_,_,_], []⟩) rfl rfl rfl rfl rfl ?_
        refine E.op (v := .int .i64 ((j : Nat) : Int)) (fr1 := ⟨[_,_,_,_,_,_,_,_,_,_,_,_,_,_,_,_,_,_,_,_,_,_,_,_,_,_,_,_,_,_,_,_,_,_,_,_,_,_,_,_, .int .i64 ((j : Nat) : Int), _,_,_,_,_,_,_,_,_,_,_,_,_,_,_,_,_,_,_,_,_,_,_], []⟩) rfl rfl rfl rfl rfl ?_
        refine E.op (v := .pointer (some ⟨Nl, ol + j * 3, none⟩)) (fr1 := ⟨[_,_,_,_,_,_,_,_,_,_,_,_,_,_,_,_,_,_,_,_,_,_,_,_,_,_,_,_,_,_,_,_,_,_,_,_,_,_,_,_,_, .pointer (some ⟨Nl, ol + j * 3, none⟩), _,_,_,_,_,_,_,_,_,_,_,_,_,_,_,_,_,_,_,_,_,_], []⟩) rfl (p_ix (Sl.ix Hl rfl rfl he32 _)) rfl rfl rfl ?_
        refine E.op (v := .pointer (some ⟨Nl, ol + j * 3 + 2, none⟩)) (fr1 := ⟨[_,_,_,_,_,_,_,_,_,_,_,_,_,_,_,_,_,_,_,_,_,_,_,_,_,_,_,_,_,_,_,_,_,_,_,_,_,_,_,_,_,_, .pointer (some ⟨Nl, ol + j * 3 + 2, none⟩), _,_,_,_,_,_,_,_,_,_,_,_,_,_,_,_,_,_,_,_,_], []⟩) rfl rfl rfl rfl rfl ?_
        refine E.load (v := .string e31.tx) (fr1 := ⟨[_,_,_,_,_,_,_,_,_,_,_,_,_,_,_,_,_,_,_,_,_,_,_,_,_,_,_,_,_,_,_,_,_,_,_,_,_,_,_,_,_,_,_, .string e31.tx, _,_,_,_,_,_,_,_,_,_,_,_,_,_,_,_,_,_,_,_], []⟩) rfl rfl rfl (fun _ h => by cases h) (fun s1 hg => (p_load1 ⟨hg.trans ((Sl.row' (Hl.own hO27) he32)).get, ((Sl.row' (Hl.own hO27) he32)).lt⟩ rfl rfl rfl ((Hl.own hO27).at (j := 2) he32 rfl))) rfl ?_
        refine E.op (v := .string (cat e.tx e31.tx)) (fr1 := ⟨[_,_,_,_,_,_,_,_,_,_,_,_,_,_,_,_,_,_,_,_,_,_,_,_,_,_,_,_,_,_,_,_,_,_,_,_,_,_,_,_,_,_,_,_, .string (cat e.tx e31.tx), _,_,_,_,_,_,_,_,_,_,_,_,_,_,_,_,_,_,_], []⟩) rfl (p_bin (catT (x := e.tx) (y := e31.tx) (by omega))) rfl rfl rfl ?_
        refine E.op (v := .agg ⟨[.int .i64 e.lo, .int .i64 e31.hi, .string (cat e.tx e31.tx)]⟩) (fr1 := ⟨[_,_,_,_,_,_,_,_,_,_,_,_,_,_,_,_,_,_,_,_,_,_,_,_,_,_,_,_,_,_,_,_,_,_,_,_,_,_,_,_,_,_,_,_,_, .agg ⟨[.int .i64 e.lo, .int .i64 e31.hi, .string (cat e.tx e31.tx)]⟩, _,_,_,_,_,_,_,_,_,_,_,_,_,_,_,_,_,_], []⟩) rfl rfl rfl rfl rfl ?_
        refine E.store (cs := [.int .i64 e.lo, .int .i64 e31.hi, .string (cat e.tx e31.tx)]) (vs' := [.int .i64 e.lo, .int .i64 e31.hi, .string (cat e.tx e31.tx)]) (fr1 := ⟨[_,_,_,_,_,_,_,_,_,_,_,_,_,_,_,_,_,_,_,_,_,_,_,_,_,_,_,_,_,_,_,_,_,_,_,_,_,_,_,_,_,_,_,_,_,_,_,_,_,_,_,_,_,_,_,_,_,_,_,_,_,_,_,_], []⟩) hO27 hr5 hB16 rfl rfl rfl rfl (by kernel_rfl) (by simp) (by simp [END, oneCell]) rfl rfl rfl (by decide) ?_
        intro s34 hO35 hn36 hu37 r38 hX39
        have hE40 := hX39 s2 hE29 hb11
        refine F.nil ?_
        refine Ends.region ?_
        refine W.op (v := .int .i64 ((j : Nat) : Int)) (fr1 := ⟨[_,_,_,_,_,_,_,_,_,_,_,_,_,_,_,_,_,_,_,_,_,_,_,_,_,_,_,_,_,_,_,_,_,_,_,_,_,_,_,_,_,_,_,_,_,_, .int .i64 ((j : Nat) : Int), _,_,_,_,_,_,_,_,_,_,_,_,_,_,_,_,_], []⟩) rfl rfl rfl rfl ?_
        refine W.op (v := .int .i64 ((j + 1 : Nat) : Int)) (fr1 := ⟨[_,_,_,_,_,_,_,_,_,_,_,_,_,_,_,_,_,_,_,_,_,_,_,_,_,_,_,_,_,_,_,_,_,_,_,_,_,_,_,_,_,_,_,_,_,_,_, .int .i64 ((j + 1 : Nat) : Int), _,_,_,_,_,_,_,_,_,_,_,_,_,_,_,_], []⟩) rfl (p_bin (addI (by omega) (by omega) (by omega))) rfl rfl ?_
        refine W.op (v := .int .i64 ((j + 1 : Nat) : Int)) (fr1 := ⟨[_,_,_,_, .int .i64 ((j + 1 : Nat) : Int), _,_,_,_,_,_,_,_,_,_,_,_,_,_,_,_,_,_,_,_,_,_,_,_,_,_,_,_,_,_,_,_,_,_,_,_,_,_,_,_,_,_,_,_,_,_,_,_,_,_,_,_,_,_,_,_,_,_,_], []⟩) rfl rfl rfl rfl ?_
        refine EndsOps.nil ?_
        exact ⟨_, (by omega), j + 1, ⟨e.lo, e31.hi, cat e.tx e31.tx⟩, pre, (by kernel_rfl), hO35, rfl, hE40, by omega, by omega, (by rw [mgF_step he32, hpre]; exact mg_join h33), hop, r38⟩
      · skip
        refine D.op (v := .bool false) (fr1 := ⟨[_,_,_,_,_,_,_,_,_,_,_,_,_,_,_,_,_,_,_,_,_,_,_,_,_,_,_,_, .bool false, _,_,_,_,_,_,_,_,_,_,_,_,_,_,_,_,_,_,_,_,_,_,_,_,_,_,_,_,_,_,_,_,_,_,_], []⟩) rfl (p_bin (eqF h33)) rfl rfl rfl ?_
        refine D.op (v := .bool false) (fr1 := ⟨[_,_,_,_,_,_,_,_,_,_,_,_,_,_,_,_,_,_,_,_,_,_,_,_,_,_,_,_,_, .bool false, _,_,_,_,_,_,_,_,_,_,_,_,_,_,_,_,_,_,_,_,_,_,_,_,_,_,_,_,_,_,_,_,_,_], []⟩) rfl rfl rfl rfl rfl ?_
        refine D.nil ?_
        refine Ends.condF rfl ?_
        refine Ends.exit ?_
        refine W.outT rfl ?_
        refine Ends.seq ?_
        refine Ends.region ?_
        refine W.op (v := .pointer (some ⟨N9, 0, none⟩)) (fr1 := ⟨[_,_,_,_,_,_,_,_,_,_,_,_,_,_,_,_,_,_,_,_,_,_,_,_,_,_,_,_,_,_,_,_,_,_,_,_,_,_,_,_,_,_,_,_,_,_,_,_, .pointer (some ⟨N9, 0, none⟩), _,_,_,_,_,_,_,_,_,_,_,_,_,_,_], []⟩) rfl rfl rfl rfl ?_
        refine W.op (v := .int .i64 e.lo) (fr1 := ⟨[_,_,_,_,_,_,_,_,_,_,_,_,_,_,_,_,_,_,_,_,_,_,_,_,_,_,_,_,_,_,_,_,_,_,_,_,_,_,_,_,_,_,_,_,_,_,_,_,_, .int .i64 e.lo, _,_,_,_,_,_,_,_,_,_,_,_,_,_], []⟩) rfl (p_load1 hr5 rfl rfl rfl rfl) rfl rfl ?_
        refine W.op (v := .pointer (some ⟨N9, 1, none⟩)) (fr1 := ⟨[_,_,_,_,_,_,_,_,_,_,_,_,_,_,_,_,_,_,_,_,_,_,_,_,_,_,_,_,_,_,_,_,_,_,_,_,_,_,_,_,_,_,_,_,_,_,_,_,_,_, .pointer (some ⟨N9, 1, none⟩), _,_,_,_,_,_,_,_,_,_,_,_,_], []⟩) rfl rfl rfl rfl ?_
        refine W.op (v := .int .i64 e.hi) (fr1 := ⟨[_,_,_,_,_,_,_,_,_,_,_,_,_,_,_,_,_,_,_,_,_,_,_,_,_,_,_,_,_,_,_,_,_,_,_,_,_,_,_,_,_,_,_,_,_,_,_,_,_,_,_, .int .i64 e.hi, _,_,_,_,_,_,_,_,_,_,_,_], []⟩) rfl (p_load1 hr5 rfl rfl rfl rfl) rfl rfl ?_
        by_cases h41 : e.lo < e.hi
        · skip
          refine W.op (v := .bool true) (fr1 := ⟨[_,_,_,_,_,_,_,_,_,_,_,_,_,_,_,_,_,_,_,_,_,_,_,_,_,_,_,_,_,_,_,_,_,_,_,_,_,_,_,_,_,_,_,_,_,_,_,_,_,_,_,_, .bool true, _,_,_,_,_,_,_,_,_,_,_], []⟩) rfl (p_bin (ltT h41)) rfl rfl ?_
          refine W.op (v := .bool true) (fr1 := ⟨[_,_,_,_,_,_,_,_,_,_,_,_,_,_,_,_,_,_,_,_,_,_,_,_,_,_,_,_,_,_,_,_,_,_,_,_,_,_,_,_,_,_,_,_,_,_,_,_,_,_,_,_,_, .bool true, _,_,_,_,_,_,_,_,_,_], []⟩) rfl rfl rfl rfl ?_
          refine W.skip (fr1 := ⟨[_,_,_,_,_,_,_,_,_,_,_,_,_,_,_,_,_,_,_,_,_,_,_,_,_,_,_,_,_,_,_,_,_,_,_,_,_,_,_,_,_,_,_,_,_,_,_,_,_,_,_,_,_,_, undef, _,_,_,_,_,_,_,_,_], []⟩) rfl rfl ?_
          refine W.skip (fr1 := ⟨[_,_,_,_,_,_,_,_,_,_,_,_,_,_,_,_,_,_,_,_,_,_,_,_,_,_,_,_,_,_,_,_,_,_,_,_,_,_,_,_,_,_,_,_,_,_,_,_,_,_,_,_,_,_,_, undef, _,_,_,_,_,_,_,_], []⟩) rfl rfl ?_
          refine W.skip (fr1 := ⟨[_,_,_,_,_,_,_,_,_,_,_,_,_,_,_,_,_,_,_,_,_,_,_,_,_,_,_,_,_,_,_,_,_,_,_,_,_,_,_,_,_,_,_,_,_,_,_,_,_,_,_,_,_,_,_,_, undef, _,_,_,_,_,_,_], []⟩) rfl rfl ?_
          refine W.skip (fr1 := ⟨[_,_,_,_,_,_,_,_,_,_,_,_,_,_,_,_,_,_,_,_,_,_,_,_,_,_,_,_,_,_,_,_,_,_,_,_,_,_,_,_,_,_,_,_,_,_,_,_,_,_,_,_,_,_,_,_,_, undef, _,_,_,_,_,_], []⟩) rfl rfl ?_
          refine W.op (v := .bool true) (fr1 := ⟨[_,_,_,_,_,_,_,_,_,_,_,_,_,_,_,_,_,_,_,_,_,_,_,_,_,_,_,_,_,_,_,_,_,_,_,_,_,_,_,_,_,_,_,_,_,_,_,_,_,_,_,_,_,_,_,_,_,_, .bool true, _,_,_,_,_], []⟩) rfl rfl rfl rfl ?_
          refine EndsOps.nil ?_
          refine Ends.condT rfl ?_
          refine Ends.region ?_
          refine W.op (v := v) (fr1 := ⟨[_,_,_,_,_,_,_,_,_,_,_,_,_,_,_,_,_,_,_,_,_,_,_,_,_,_,_,_,_,_,_,_,_,_,_,_,_,_,_,_,_,_,_,_,_,_,_,_,_,_,_,_,_,_,_,_,_,_,_, v, _,_,_,_], []⟩) rfl rfl rfl rfl ?_
          refine W.op (v := .agg ⟨[.int .i64 e.lo, .int .i64 e.hi, .string e.tx]⟩) (fr1 := ⟨[_,_,_,_,_,_,_,_,_,_,_,_,_,_,_,_,_,_,_,_,_,_,_,_,_,_,_,_,_,_,_,_,_,_,_,_,_,_,_,_,_,_,_,_,_,_,_,_,_,_,_,_,_,_,_,_,_,_,_,_, .agg ⟨[.int .i64 e.lo, .int .i64 e.hi, .string e.tx]⟩, _,_,_], []⟩) rfl (p_loadA hr5 rfl rfl rfl rfl rfl) rfl rfl ?_
          obtain ⟨N42, hN43⟩ : ∃ N, N = s26.next := ⟨_, rfl⟩
          have hb44 : s2.next ≤ N42 := hN43 ▸ hE29.next
          refine W.newS (N := N42) (vs := [.int .i64 e.lo, .int .i64 e.hi, .string e.tx]) (fr1 := ⟨[_,_,_,_,_,_,_,_,_,_,_,_,_,_,_,_,_,_,_,_,_,_,_,_,_,_,_,_,_,_,_,_,_,_,_,_,_,_,_,_,_,_,_,_,_,_,_,_,_,_,_,_,_,_,_,_,_,_,_,_,_, .slice (some ⟨N42, 0, none⟩) 1 1, _,_], []⟩) hO27 hN43 rfl (p_bs rfl rfl zero97 rfl (by decide) rfl rfl) rfl rfl ?_
          intro s45 hO46 hS47 r48 hB49
          have hE50 := hE29.trans hS47
          have r51 := hr5.own hS47
          refine W.append (c := Ed.cells) (l := o) (x := ⟨e.lo, e.hi, e.tx⟩) (fF := fun v52 => ⟨[_,_,_,_,_,_,_,_,_,_,_,_,_,_,_,_,_,_,_,_,_,_,_,_,_,_,_,_,_,_,_,_,_,_,_,_,_,_,_,_,_,_,_,_,_,_,_,_,_,_,_,_,_,_,_,_,_,_,_,_,_,_, v52, _], []⟩) app22m (fun _ => rfl) (by exact Ed.one) hO46 hE50 hol5 r48 rfl rfl rfl rfl (by omega) (by omega) (fun _ => rfl) ?_
          intro v52 s53 hO54 hnx55 hu56 hol57
          have r59 : Row s53.t s53.next _ _ _ _ := ⟨(hu56 _ hb11 r51.lt).trans r51.get, Nat.lt_of_lt_of_le r51.lt hnx55⟩
          have r60 : Row s53.t s53.next _ _ _ _ := ⟨(hu56 _ hb44 r48.lt).trans r48.get, Nat.lt_of_lt_of_le r48.lt hnx55⟩
          refine W.op (v := v52) (fr1 := ⟨[_,_,_, v52, _,_,_,_,_,_,_,_,_,_,_,_,_,_,_,_,_,_,_,_,_,_,_,_,_,_,_,_,_,_,_,_,_,_,_,_,_,_,_,_,_,_,_,_,_,_,_,_,_,_,_,_,_,_,_,_,_,_,_,_], []⟩) rfl rfl rfl rfl ?_
          refine EndsOps.nil ?_
          exact ⟨_, (by omega), j, (o ++ [⟨e.lo, e.hi, e.tx⟩]), v52, (by kernel_rfl), hO54, rfl, hol57, by omega, (by rw [hpre, kept_T (.inl h41), hop]), (by first | omega | (rw [List.length_append]; simp only [List.length_singleton]; omega)), (fun e9 a9 he9 ha9 => by rw [hpre] at ha9; simp only [List.getLast?_append, List.getLast?_singleton, Option.some_or, Option.some.injEq] at ha9; subst ha9; exact (by rw [he32] at he9; cases he9; exact fun h9 => h33 h9.symm))⟩
        · skip
          refine W.op (v := .bool false) (fr1 := ⟨[_,_,_,_,_,_,_,_,_,_,_,_,_,_,_,_,_,_,_,_,_,_,_,_,_,_,_,_,_,_,_,_,_,_,_,_,_,_,_,_,_,_,_,_,_,_,_,_,_,_,_,_, .bool false, _,_,_,_,_,_,_,_,_,_,_], []⟩) rfl (p_bin (ltF h41)) rfl rfl ?_
          refine W.op (v := .bool false) (fr1 := ⟨[_,_,_,_,_,_,_,_,_,_,_,_,_,_,_,_,_,_,_,_,_,_,_,_,_,_,_,_,_,_,_,_,_,_,_,_,_,_,_,_,_,_,_,_,_,_,_,_,_,_,_,_,_, .bool false, _,_,_,_,_,_,_,_,_,_], []⟩) rfl rfl rfl rfl ?_
          refine W.op (v := .pointer (some ⟨N9, 2, none⟩)) (fr1 := ⟨[_,_,_,_,_,_,_,_,_,_,_,_,_,_,_,_,_,_,_,_,_,_,_,_,_,_,_,_,_,_,_,_,_,_,_,_,_,_,_,_,_,_,_,_,_,_,_,_,_,_,_,_,_,_, .pointer (some ⟨N9, 2, none⟩), _,_,_,_,_,_,_,_,_], []⟩) rfl rfl rfl rfl ?_
          refine W.op (v := .string e.tx) (fr1 := ⟨[_,_,_,_,_,_,_,_,_,_,_,_,_,_,_,_,_,_,_,_,_,_,_,_,_,_,_,_,_,_,_,_,_,_,_,_,_,_,_,_,_,_,_,_,_,_,_,_,_,_,_,_,_,_,_, .string e.tx, _,_,_,_,_,_,_,_], []⟩) rfl (p_load1 hr5 rfl rfl rfl rfl) rfl rfl ?_
          refine W.op (v := .int .i64 (((B e.tx).length : Nat) : Int)) (fr1 := ⟨[_,_,_,_,_,_,_,_,_,_,_,_,_,_,_,_,_,_,_,_,_,_,_,_,_,_,_,_,_,_,_,_,_,_,_,_,_,_,_,_,_,_,_,_,_,_,_,_,_,_,_,_,_,_,_,_, .int .i64 (((B e.tx).length : Nat) : Int), _,_,_,_,_,_,_], []⟩) rfl rfl rfl rfl ?_
          by_cases h61 : (0 : Int) < (((B e.tx).length : Nat) : Int)
          · skip
            refine W.op (v := .bool true) (fr1 := ⟨[_,_,_,_,_,_,_,_,_,_,_,_,_,_,_,_,_,_,_,_,_,_,_,_,_,_,_,_,_,_,_,_,_,_,_,_,_,_,_,_,_,_,_,_,_,_,_,_,_,_,_,_,_,_,_,_,_, .bool true, _,_,_,_,_,_], []⟩) rfl (p_bin (gtT h61)) rfl rfl ?_
            refine W.op (v := .bool true) (fr1 := ⟨[_,_,_,_,_,_,_,_,_,_,_,_,_,_,_,_,_,_,_,_,_,_,_,_,_,_,_,_,_,_,_,_,_,_,_,_,_,_,_,_,_,_,_,_,_,_,_,_,_,_,_,_,_,_,_,_,_,_, .bool true, _,_,_,_,_], []⟩) rfl rfl rfl rfl ?_
            refine EndsOps.nil ?_
            refine Ends.condT rfl ?_
            refine Ends.region ?_
            refine W.op (v := v) (fr1 := ⟨[_,_,_,_,_,_,_,_,_,_,_,_,_,_,_,_,_,_,_,_,_,_,_,_,_,_,_,_,_,_,_,_,_,_,_,_,_,_,_,_,_,_,_,_,_,_,_,_,_,_,_,_,_,_,_,_,_,_,_, v, _,_,_,_], []⟩) rfl rfl rfl rfl ?_
            refine W.op (v := .agg ⟨[.int .i64 e.lo, .int .i64 e.hi, .string e.tx]⟩) (fr1 := ⟨[_,_,_,_,_,_,_,_,_,_,_,_,_,_,_,_,_,_,_,_,_,_,_,_,_,_,_,_,_,_,_,_,_,_,_,_,_,_,_,_,_,_,_,_,_,_,_,_,_,_,_,_,_,_,_,_,_,_,_,_, .agg ⟨[.int .i64 e.lo, .int .i64 e.hi, .string e.tx]⟩, _,_,_], []⟩) rfl (p_loadA hr5 rfl rfl rfl rfl rfl) rfl rfl ?_
            obtain ⟨N62, hN63⟩ : ∃ N, N = s26.next := ⟨_, rfl⟩
            have hb64 : s2.next ≤ N62 := hN63 ▸ hE29.next
            refine W.newS (N := N62) (vs := [.int .i64 e.lo, .int .i64 e.hi, .string e.tx]) (fr1 := ⟨[_,_,_,_,_,_,_,_,_,_,_,_,_,_,_,_,_,_,_,_,_,_,_,_,_,_,_,_,_,_,_,_,_,_,_,_,_,_,_,_,_,_,_,_,_,_,_,_,_,_,_,_,_,_,_,_,_,_,_,_,_, .slice (some ⟨N62, 0, none⟩) 1 1, _,_], []⟩) hO27 hN63 rfl (p_bs rfl rfl zero97 rfl (by decide) rfl rfl) rfl rfl ?_
            intro s65 hO66 hS67 r68 hB69
            have hE70 := hE29.trans hS67
            have r71 := hr5.own hS67
            refine W.append (c := Ed.cells) (l := o) (x := ⟨e.lo, e.hi, e.tx⟩) (fF := fun v72 => ⟨[_,_,_,_,_,_,_,_,_,_,_,_,_,_,_,_,_,_,_,_,_,_,_,_,_,_,_,_,_,_,_,_,_,_,_,_,_,_,_,_,_,_,_,_,_,_,_,_,_,_,_,_,_,_,_,_,_,_,_,_,_,_, v72, _], []⟩) app22m (fun _ => rfl) (by exact Ed.one) hO66 hE70 hol5 r68 rfl rfl rfl rfl (by omega) (by omega) (fun _ => rfl) ?_
            intro v72 s73 hO74 hnx75 hu76 hol77
            have r79 : Row s73.t s73.next _ _ _ _ := ⟨(hu76 _ hb11 r71.lt).trans r71.get, Nat.lt_of_lt_of_le r71.lt hnx75⟩
            have r80 : Row s73.t s73.next _ _ _ _ := ⟨(hu76 _ hb64 r68.lt).trans r68.get, Nat.lt_of_lt_of_le r68.lt hnx75⟩
            refine W.op (v := v72) (fr1 := ⟨[_,_,_, v72, _,_,_,_,_,_,_,_,_,_,_,_,_,_,_,_,_,_,_,_,_,_,_,_,_,_,_,_,_,_,_,_,_,_,_,_,_,_,_,_,_,_,_,_,_,_,_,_,_,_,_,_,_,_,_,_,_,_,_,_], []⟩) rfl rfl rfl rfl ?_
            refine EndsOps.nil ?_
            exact ⟨_, (by omega), j, (o ++ [⟨e.lo, e.hi, e.tx⟩]), v72, (by kernel_rfl), hO74, rfl, hol77, by omega, (by rw [hpre, kept_T (.inr (by omega)), hop]), (by first | omega | (rw [List.length_append]; simp only [List.length_singleton]; omega)), (fun e9 a9 he9 ha9 => by rw [hpre] at ha9; simp only [List.getLast?_append, List.getLast?_singleton, Option.some_or, Option.some.injEq] at ha9; subst ha9; exact (by rw [he32] at he9; cases he9; exact fun h9 => h33 h9.symm))⟩
          · skip
            refine W.op (v := .bool false) (fr1 := ⟨[_,_,_,_,_,_,_,_,_,_,_,_,_,_,_,_,_,_,_,_,_,_,_,_,_,_,_,_,_,_,_,_,_,_,_,_,_,_,_,_,_,_,_,_,_,_,_,_,_,_,_,_,_,_,_,_,_, .bool false, _,_,_,_,_,_], []⟩) rfl (p_bin (gtF h61)) rfl rfl ?_
            refine W.op (v := .bool false) (fr1 := ⟨[_,_,_,_,_,_,_,_,_,_,_,_,_,_,_,_,_,_,_,_,_,_,_,_,_,_,_,_,_,_,_,_,_,_,_,_,_,_,_,_,_,_,_,_,_,_,_,_,_,_,_,_,_,_,_,_,_,_, .bool false, _,_,_,_,_], []⟩) rfl rfl rfl rfl ?_
            refine EndsOps.nil ?_
            refine Ends.condF rfl ?_
            refine Ends.skip ?_
            exact ⟨_, (by omega), j, o, v, (by kernel_rfl), hO27, rfl, (hol5.own hE29), by omega, (by rw [hpre, kept_F (fun hk => hk.elim h41 (fun h0 => h61 (by omega))), hop]), (by first | omega | (rw [List.length_append]; simp only [List.length_singleton]; omega)), (fun e9 a9 he9 ha9 => by rw [hpre] at ha9; simp only [List.getLast?_append, List.getLast?_singleton, Option.some_or, Option.some.injEq] at ha9; subst ha9; exact (by rw [he32] at he9; cases he9; exact fun h9 => h33 h9.symm))⟩
    · skip
      refine D.op (v := .bool false) (fr1 := ⟨[_,_,_,_,_,_,_,_,_,_,_,_,_,_,_,_,_,_,_, .bool false, _,_,_,_,_,_,_,_,_,_,_,_,_,_,_,_,_,_,_,_,_,_,_,_,_,_,_,_,_,_,_,_,_,_,_,_,_,_,_,_,_,_,_,_], []⟩) rfl (p_bin (ltF h30)) rfl rfl rfl ?_
      refine D.op (v := .bool false) (fr1 := ⟨[_,_,_,_,_,_,_,_,_,_,_,_,_,_,_,_,_,_,_,_, .bool false, _,_,_,_,_,_,_,_,_,_,_,_,_,_,_,_,_,_,_,_,_,_,_,_,_,_,_,_,_,_,_,_,_,_,_,_,_,_,_,_,_,_,_], []⟩) rfl rfl rfl rfl rfl ?_
      refine D.skip (fr1 := ⟨[_,_,_,_,_,_,_,_,_,_,_,_,_,_,_,_,_,_,_,_,_, undef, _,_,_,_,_,_,_,_,_,_,_,_,_,_,_,_,_,_,_,_,_,_,_,_,_,_,_,_,_,_,_,_,_,_,_,_,_,_,_,_,_,_], []⟩) rfl rfl ?_
      refine D.skip (fr1 := ⟨[_,_,_,_,_,_,_,_,_,_,_,_,_,_,_,_,_,_,_,_,_,_, undef, _,_,_,_,_,_,_,_,_,_,_,_,_,_,_,_,_,_,_,_,_,_,_,_,_,_,_,_,_,_,_,_,_,_,_,_,_,_,_,_,_], []⟩) rfl rfl ?_
      refine D.skip (fr1 := ⟨[_,_,_,_,_,_,_,_,_,_,_,_,_,_,_,_,_,_,_,_,_,_,_, undef, _,_,_,_,_,_,_,_,_,_,_,_,_,_,_,_,_,_,_,_,_,_,_,_,_,_,_,_,_,_,_,_,_,_,_,_,_,_,_,_], []⟩) rfl rfl ?_
      refine D.skip (fr1 := ⟨[_,_,_,_,_,_,_,_,_,_,_,_,_,_,_,_,_,_,_,_,_,_,_,_, undef, _,_,_,_,_,_,_,_,_,_,_,_,_,_,_,_,_,_,_,_,_,_,_,_,_,_,_,_,_,_,_,_,_,_,_,_,_,_,_], []⟩) rfl rfl ?_
      refine D.skip (fr1 := ⟨[_,_,_,_,_,_,_,_,_,_,_,_,_,_,_,_,_,_,_,_,_,_,_,_,_, undef, _,_,_,_,_,_,_,_,_,_,_,_,_,_,_,_,_,_,_,_,_,_,_,_,_,_,_,_,_,_,_,_,_,_,_,_,_,_], []⟩) rfl rfl ?_
      refine D.skip (fr1 := ⟨[_,_,_,_,_,_,_,_,_,_,_,_,_,_,_,_,_,_,_,_,_,_,_,_,_,_, undef, _,_,_,_,_,_,_,_,_,_,_,_,_,_,_,_,_,_,_,_,_,_,_,_,_,_,_,_,_,_,_,_,_,_,_,_,_], []⟩) rfl rfl ?_
      refine D.skip (fr1 := ⟨[_,_,_,_,_,_,_,_,_,_,_,_,_,_,_,_,_,_,_,_,_,_,_,_,_,_,_, undef, _,_,_,_,_,_,_,_,_,_,_,_,_,_,_,_,_,_,_,_,_,_,_,_,_,_,_,_,_,_,_,_,_,_,_,_], []⟩) rfl rfl ?_
      refine D.skip (fr1 := ⟨[_,_,_,_,_,_,_,_,_,_,_,_,_,_,_,_,_,_,_,_,_,_,_,_,_,_,_,_, undef, _,_,_,_,_,_,_,_,_,_,_,_,_,_,_,_,_,_,_,_,_,_,_,_,_,_,_,_,_,_,_,_,_,_,_], []⟩) rfl rfl ?_
      refine D.op (v := .bool false) (fr1 := ⟨[_,_,_,_,_,_,_,_,_,_,_,_,_,_,_,_,_,_,_,_,_,_,_,_,_,_,_,_,_, .bool false, _,_,_,_,_,_,_,_,_,_,_,_,_,_,_,_,_,_,_,_,_,_,_,_,_,_,_,_,_,_,_,_,_,_], []⟩) rfl rfl rfl rfl rfl ?_
      refine D.nil ?_
      refine Ends.condF rfl ?_
      refine Ends.exit ?_
      refine W.outT rfl ?_
      refine Ends.seq ?_
      refine Ends.region ?_
      refine W.op (v := .pointer (some ⟨N9, 0, none⟩)) (fr1 := ⟨[_,_,_,_,_,_,_,_,_,_,_,_,_,_,_,_,_,_,_,_,_,_,_,_,_,_,_,_,_,_,_,_,_,_,_,_,_,_,_,_,_,_,_,_,_,_,_,_, .pointer (some ⟨N9, 0, none⟩), _,_,_,_,_,_,_,_,_,_,_,_,_,_,_], []⟩) rfl rfl rfl rfl ?_
      refine W.op (v := .int .i64 e.lo) (fr1 := ⟨[_,_,_,_,_,_,_,_,_,_,_,_,_,_,_,_,_,_,_,_,_,_,_,_,_,_,_,_,_,_,_,_,_,_,_,_,_,_,_,_,_,_,_,_,_,_,_,_,_, .int .i64 e.lo, _,_,_,_,_,_,_,_,_,_,_,_,_,_], []⟩) rfl (p_load1 hr5 rfl rfl rfl rfl) rfl rfl ?_
      refine W.op (v := .pointer (some ⟨N9, 1, none⟩)) (fr1 := ⟨[_,_,_,_,_,_,_,_,_,_,_,_,_,_,_,_,_,_,_,_,_,_,_,_,_,_,_,_,_,_,_,_,_,_,_,_,_,_,_,_,_,_,_,_,_,_,_,_,_,_, .pointer (some ⟨N9, 1, none⟩), _,_,_,_,_,_,_,_,_,_,_,_,_], []⟩) rfl rfl rfl rfl ?_
      refine W.op (v := .int .i64 e.hi) (fr1 := ⟨[_,_,_,_,_,_,_,_,_,_,_,_,_,_,_,_,_,_,_,_,_,_,_,_,_,_,_,_,_,_,_,_,_,_,_,_,_,_,_,_,_,_,_,_,_,_,_,_,_,_,_, .int .i64 e.hi, _,_,_,_,_,_,_,_,_,_,_,_], []⟩) rfl (p_load1 hr5 rfl rfl rfl rfl) rfl rfl ?_
      by_cases h81 : e.lo < e.hi
      · skip
        refine W.op (v := .bool true) (fr1 := ⟨[_,_,_,_,_,_,_,_,_,_,_,_,_,_,_,_,_,_,_,_,_,_,_,_,_,_,_,_,_,_,_,_,_,_,_,_,_,_,_,_,_,_,_,_,_,_,_,_,_,_,_,_, .bool true, _,_,_,_,_,_,_,_,_,_,_], []⟩) rfl (p_bin (ltT h81)) rfl rfl ?_
        refine W.op (v := .bool true) (fr1 := ⟨[_,_,_,_,_,_,_,_,_,_,_,_,_,_,_,_,_,_,_,_,_,_,_,_,_,_,_,_,_,_,_,_,_,_,_,_,_,_,_,_,_,_,_,_,_,_,_,_,_,_,_,_,_, .bool true, _,_,_,_,_,_,_,_,_,_], []⟩) rfl rfl rfl rfl ?_
        refine W.skip (fr1 := ⟨[_,_,_,_,_,_,_,_,_,_,_,_,_,_,_,_,_,_,_,_,_,_,_,_,_,_,_,_,_,_,_,_,_,_,_,_,_,_,_,_,_,_,_,_,_,_,_,_,_,_,_,_,_,_, undef, _,_,_,_,_,_,_,_,_], []⟩) rfl rfl ?_
        refine W.skip (fr1 := ⟨[_,_,_,_,_,_,_,_,_,_,_,_,_,_,_,_,_,_,_,_,_,_,_,_,_,_,_,_,_,_,_,_,_,_,_,_,_,_,_,_,_,_,_,_,_,_,_,_,_,_,_,_,_,_,_, undef, _,_,_,_,_,_,_,_], []⟩) rfl rfl ?_
        refine W.skip (fr1 := ⟨[_,_,_,_,_,_,_,_,_,_,_,_,_,_,_,_,_,_,_,_,_,_,_,_,_,_,_,_,_,_,_,_,_,_,_,_,_,_,_,_,_,_,_,_,_,_,_,_,_,_,_,_,_,_,_,_, undef, _,_,_,_,_,_,_], []⟩) rfl rfl ?_
        refine W.skip (fr1 := ⟨[_,_,_,_,_,_,_,_,_,_,_,_,_,_,_,_,_,_,_,_,_,_,_,_,_,_,_,_,_,_,_,_,_,_,_,_,_,_,_,_,_,_,_,_,_,_,_,_,_,_,_,_,_,_,_,_,_, undef, _,_,_,_,_,_], []⟩) rfl rfl ?_
        refine W.op (v := .bool true) (fr1 := ⟨[_,_,_,_,_,_,_,_,_,_,_,_,_,_,_,_,_,_,_,_,_,_,_,_,_,_,_,_,_,_,_,_,_,_,_,_,_,_,_,_,_,_,_,_,_,_,_,_,_,_,_,_,_,_,_,_,_,_, .bool true, _,_,_,_,_], []⟩) rfl rfl rfl rfl ?_
        refine EndsOps.nil ?_
        refine Ends.condT rfl ?_
        refine Ends.region ?_
        refine W.op (v := v) (fr1 := ⟨[_,_,_,_,_,_,_,_,_,_,_,_,_,_,_,_,_,_,_,_,_,_,_,_,_,_,_,_,_,_,_,_,_,_,_,_,_,_,_,_,_,_,_,_,_,_,_,_,_,_,_,_,_,_,_,_,_,_,_, v, _,_,_,_], []⟩) rfl rfl rfl rfl ?_
        refine W.op (v := .agg ⟨[.int .i64 e.lo, .int .i64 e.hi, .string e.tx]⟩) (fr1 := ⟨[_,_,_,_,_,_,_,_,_,_,_,_,_,_,_,_,_,_,_,_,_,_,_,_,_,_,_,_,_,_,_,_,_,_,_,_,_,_,_,_,_,_,_,_,_,_,_,_,_,_,_,_,_,_,_,_,_,_,_,_, .agg ⟨[.int .i64 e.lo, .int .i64 e.hi, .string e.tx]⟩, _,_,_], []⟩) rfl (p_loadA hr5 rfl rfl rfl rfl rfl) rfl rfl ?_
        obtain ⟨N82, hN83⟩ : ∃ N, N = s26.next := ⟨_, rfl⟩
        have hb84 : s2.next ≤ N82 := hN83 ▸ hE29.next
        refine W.newS (N := N82) (vs := [.int .i64 e.lo, .int .i64 e.hi, .string e.tx]) (fr1 := ⟨[_,_,_,_,_,_,_,_,_,_,_,_,_,_,_,_,_,_,_,_,_,_,_,_,_,_,_,_,_,_,_,_,_,_,_,_,_,_,_,_,_,_,_,_,_,_,_,_,_,_,_,_,_,_,_,_,_,_,_,_,_, .slice (some ⟨N82, 0, none⟩) 1 1, _,_], []⟩) hO27 hN83 rfl (p_bs rfl rfl zero97 rfl (by decide) rfl rfl) rfl rfl ?_
        intro s85 hO86 hS87 r88 hB89
        have hE90 := hE29.trans hS87
        have r91 := hr5.own hS87
        refine W.append (c := Ed.cells) (l := o) (x := ⟨e.lo, e.hi, e.tx⟩) (fF := fun v92 => ⟨[_,_,_,_,_,_,_,_,_,_,_,_,_,_,_,_,_,_,_,_,_,_,_,_,_,_,_,_,_,_,_,_,_,_,_,_,_,_,_,_,_,_,_,_,_,_,_,_,_,_,_,_,_,_,_,_,_,_,_,_,_,_, v92, _], []⟩) app22m (fun _ => rfl) (by exact Ed.one) hO86 hE90 hol5 r88 rfl rfl rfl rfl (by omega) (by omega) (fun _ => rfl) ?_
        intro v92 s93 hO94 hnx95 hu96 hol97
        have r99 : Row s93.t s93.next _ _ _ _ := ⟨(hu96 _ hb11 r91.lt).trans r91.get, Nat.lt_of_lt_of_le r91.lt hnx95⟩
        have r100 : Row s93.t s93.next _ _ _ _ := ⟨(hu96 _ hb84 r88.lt).trans r88.get, Nat.lt_of_lt_of_le r88.lt hnx95⟩
        refine W.op (v := v92) (fr1 := ⟨[_,_,_, v92, _,_,_,_,_,_,_,_,_,_,_,_,_,_,_,_,_,_,_,_,_,_,_,_,_,_,_,_,_,_,_,_,_,_,_,_,_,_,_,_,_,_,_,_,_,_,_,_,_,_,_,_,_,_,_,_,_,_,_,_], []⟩) rfl rfl rfl rfl ?_
        refine EndsOps.nil ?_
        exact ⟨_, (by omega), j, (o ++ [⟨e.lo, e.hi, e.tx⟩]), v92, (by kernel_rfl), hO94, rfl, hol97, by omega, (by rw [hpre, kept_T (.inl h81), hop]), (by first | omega | (rw [List.length_append]; simp only [List.length_singleton]; omega)), (fun e9 a9 he9 ha9 => by rw [hpre] at ha9; simp only [List.getLast?_append, List.getLast?_singleton, Option.some_or, Option.some.injEq] at ha9; subst ha9; exact (by have h1 := (List.getElem?_eq_some_iff.1 he9).1; omega))⟩
      · skip
        refine W.op (v := .bool false) (fr1 := ⟨[_,_,_,_,_,_,_,_,_,_,_,_,_,_,_,_,_,_,_,_,_,_,_,_,_,_,_,_,_,_,_,_,_,_,_,_,_,_,_,_,_,_,_,_,_,_,_,_,_,_,_,_, .bool false, _,_,_,_,_,_,_,_,_,_,_], []⟩) rfl (p_bin (ltF h81)) rfl rfl ?_
        refine W.op (v := .bool false) (fr1 := ⟨[_,_,_,_,_,_,_,_,_,_,_,_,_,_,_,_,_,_,_,_,_,_,_,_,_,_,_,_,_,_,_,_,_,_,_,_,_,_,_,_,_,_,_,_,_,_,_,_,_,_,_,_,_, .bool false, _,_,_,_,_,_,_,_,_,_], []⟩) rfl rfl rfl rfl ?_
        refine W.op (v := .pointer (some ⟨N9, 2, none⟩)) (fr1 := ⟨[_,_,_,_,_,_,_,_,_,_,_,_,_,_,_,_,_,_,_,_,_,_,_,_,_,_,_,_,_,_,_,_,_,_,_,_,_,_,_,_,_,_,_,_,_,_,_,_,_,_,_,_,_,_, .pointer (some ⟨N9, 2, none⟩), _,_,_,_,_,_,_,_,_], []⟩) rfl rfl rfl rfl ?_
        refine W.op (v := .string e.tx) (fr1 := ⟨[_,_,_,_,_,_,_,_,_,_,_,_,_,_,_,_,_,_,_,_,_,_,_,_,_,_,_,_,_,_,_,_,_,_,_,_,_,_,_,_,_,_,_,_,_,_,_,_,_,_,_,_,_,_,_, .string e.tx, _,_,_,_,_,_,_,_], []⟩) rfl (p_load1 hr5 rfl rfl rfl rfl) rfl rfl ?_
        refine W.op (v := .int .i64 (((B e.tx).length : Nat) : Int)) (fr1 := ⟨[_,_,_,_,_,_,_,_,_,_,_,_,_,_,_,_,_,_,_,_,_,_,_,_,_,_,_,_,_,_,_,_,_,_,_,_,_,_,_,_,_,_,_,_,_,_,_,_,_,_,_,_,_,_,_,_, .int .i64 (((B e.tx).length : Nat) : Int), _,_,_,_,_,_,_], []⟩) rfl rfl rfl rfl ?_
        by_cases h101 : (0 : Int) < (((B e.tx).length : Nat) : Int)
        · skip
          refine W.op (v := .bool true) (fr1 := ⟨[_,_,_,_,_,_,_,_,_,_,_,_,_,_,_,_,_,_,_,_,_,_,_,_,_,_,_,_,_,_,_,_,_,_,_,_,_,_,_,_,_,_,_,_,_,_,_,_,_,_,_,_,_,_,_,_,_, .bool true, _,_,_,_,_,_], []⟩) rfl (p_bin (gtT h101)) rfl rfl ?_
          refine W.op (v := .bool true) (fr1 := ⟨[_,_,_,_,_,_,_,_,_,_,_,_,_,_,_,_,_,_,_,_,_,_,_,_,_,_,_,_,_,_,_,_,_,_,_,_,_,_,_,_,_,_,_,_,_,_,_,_,_,_,_,_,_,_,_,_,_,_, .bool true, _,_,_,_,_], []⟩) rfl rfl rfl rfl ?_
          refine EndsOps.nil ?_
          refine Ends.condT rfl ?_
          refine Ends.region ?_
          refine W.op (v := v) (fr1 := ⟨[_,_,_,_,_,_,_,_,_,_,_,_,_,_,_,_,_,_,_,_,_,_,_,_,_,_,_,_,_,_,_,_,_,_,_,_,_,_,_,_,_,_,_,_,_,_,_,_,_,_,_,_,_,_,_,_,_,_,_, v, _,_,_,_], []⟩) rfl rfl rfl rfl ?_
          refine W.op (v := .agg ⟨[.int .i64 e.lo, .int .i64 e.hi, .string e.tx]⟩) (fr1 := ⟨[_,_,_,_,_,_,_,_,_,_,_,_,_,_,_,_,_,_,_,_,_,_,_,_,_,_,_,_,_,_,_,_,_,_,_,_,_,_,_,_,_,_,_,_,_,_,_,_,_,_,_,_,_,_,_,_,_,_,_,_, .agg ⟨[.int .i64 e.lo, .int .i64 e.hi, .string e.tx]⟩, _,_,_], []⟩) rfl (p_loadA hr5 rfl rfl rfl rfl rfl) rfl rfl ?_
          obtain ⟨N102, hN103⟩ : ∃ N, N = s26.next := ⟨_, rfl⟩
          have hb104 : s2.next ≤ N102 := hN103 ▸ hE29.next
          refine W.newS (N := N102) (vs := [.int .i64 e.lo, .int .i64 e.hi, .string e.tx]) (fr1 := ⟨[_,_,_,_,_,_,_,_,_,_,_,_,_,_,_,_,_,_,_,_,_,_,_,_,_,_,_,_,_,_,_,_,_,_,_,_,_,_,_,_,_,_,_,_,_,_,_,_,_,_,_,_,_,_,_,_,_,_,_,_,_, .slice (some ⟨N102, 0, none⟩) 1 1, _,_], []⟩) hO27 hN103 rfl (p_bs rfl rfl zero97 rfl (by decide) rfl rfl) rfl rfl ?_
          intro s105 hO106 hS107 r108 hB109
          have hE110 := hE29.trans hS107
          have r111 := hr5.own hS107
          refine W.append (c := Ed.cells) (l := o) (x := ⟨e.lo, e.hi, e.tx⟩) (fF := fun v112 => ⟨[_,_,_,_,_,_,_,_,_,_,_,_,_,_,_,_,_,_,_,_,_,_,_,_,_,_,_,_,_,_,_,_,_,_,_,_,_,_,_,_,_,_,_,_,_,_,_,_,_,_,_,_,_,_,_,_,_,_,_,_,_,_, v112, _], []⟩) app22m (fun _ => rfl) (by exact Ed.one) hO106 hE110 hol5 r108 rfl rfl rfl rfl (by omega) (by omega) (fun _ => rfl) ?_
          intro v112 s113 hO114 hnx115 hu116 hol117
          have r119 : Row s113.t s113.next _ _ _ _ := ⟨(hu116 _ hb11 r111.lt).trans r111.get, Nat.lt_of_lt_of_le r111.lt hnx115⟩
          have r120 : Row s113.t s113.next _ _ _ _ := ⟨(hu116 _ hb104 r108.lt).trans r108.get, Nat.lt_of_lt_of_le r108.lt hnx115⟩
          refine W.op (v := v112) (fr1 := ⟨[_,_,_, v112, _,_,_,_,_,_,_,_,_,_,_,_,_,_,_,_,_,_,_,_,_,_,_,_,_,_,_,_,_,_,_,_,_,_,_,_,_,_,_,_,_,_,_,_,_,_,_,_,_,_,_,_,_,_,_,_,_,_,_,_], []⟩) rfl rfl rfl rfl ?_
          refine EndsOps.nil ?_
          exact ⟨_, (by omega), j, (o ++ [⟨e.lo, e.hi, e.tx⟩]), v112, (by kernel_rfl), hO114, rfl, hol117, by omega, (by rw [hpre, kept_T (.inr (by omega)), hop]), (by first | omega | (rw [List.length_append]; simp only [List.length_singleton]; omega)), (fun e9 a9 he9 ha9 => by rw [hpre] at ha9; simp only [List.getLast?_append, List.getLast?_singleton, Option.some_or, Option.some.injEq] at ha9; subst ha9; exact (by have h1 := (List.getElem?_eq_some_iff.1 he9).1; omega))⟩
        · skip
          refine W.op (v := .bool false) (fr1 := ⟨[_,_,_,_,_,_,_,_,_,_,_,_,_,_,_,_,_,_,_,_,_,_,_,_,_,_,_,_,_,_,_,_,_,_,_,_,_,_,_,_,_,_,_,_,_,_,_,_,_,_,_,_,_,_,_,_,_, .bool false, _,_,_,_,_,_], []⟩) rfl (p_bin (gtF h101)) rfl rfl ?_
          refine W.op (v := .bool false) (fr1 := ⟨[_,_,_,_,_,_,_,_,_,_,_,_,_,_,_,_,_,_,_,_,_,_,_,_,_,_,_,_,_,_,_,_,_,_,_,_,_,_,_,_,_,_,_,_,_,_,_,_,_,_,_,_,_,_,_,_,_,_, .bool false, _,_,_,_,_], []⟩) rfl rfl rfl rfl ?_
          refine EndsOps.nil ?_
          refine Ends.condF rfl ?_
          refine Ends.skip ?_
          exact ⟨_, (by omega), j, o, v, (by kernel_rfl), hO27, rfl, (hol5.own hE29), by omega, (by rw [hpre, kept_F (fun hk => hk.elim h81 (fun h0 => h101 (by omega))), hop]), (by first | omega | (rw [List.length_append]; simp only [List.length_singleton]; omega)), (fun e9 a9 he9 ha9 => by rw [hpre] at ha9; simp only [List.getLast?_append, List.getLast?_singleton, Option.some_or, Option.some.injEq] at ha9; subst ha9; exact (by have h1 := (List.getElem?_eq_some_iff.1 he9).1; omega))⟩
  · skip
    refine W.op (v := .bool false) (fr1 := ⟨[_,_,_,_,_,_,_,_,_, .bool false, _,_,_,_,_,_,_,_,_,_,_,_,_,_,_,_,_,_,_,_,_,_,_,_,_,_,_,_,_,_,_,_,_,_,_,_,_,_,_,_,_,_,_,_,_,_,_,_,_,_,_,_,_,_], []⟩) rfl (p_bin (ltF h6)) rfl rfl ?_
    refine EndsOps.nil ?_
    refine Ends.condF rfl ?_
    refine Ends.exit ?_
    refine W.outT rfl ?_
    refine Ends.seq ?_
    refine Ends.region ?_
    refine W.op (v := v) (fr1 := ⟨[_,_,_,_,_,_,_,_,_,_,_,_,_,_,_,_,_,_,_,_,_,_,_,_,_,_,_,_,_,_,_,_,_,_,_,_,_,_,_,_,_,_,_,_,_,_,_,_,_,_,_,_,_,_,_,_,_,_,_,_,_,_,_, v], []⟩) rfl rfl rfl rfl ?_
    refine W.op (v := v) (fr1 := ⟨[_,_, v, _,_,_,_,_,_,_,_,_,_,_,_,_,_,_,_,_,_,_,_,_,_,_,_,_,_,_,_,_,_,_,_,_,_,_,_,_,_,_,_,_,_,_,_,_,_,_,_,_,_,_,_,_,_,_,_,_,_,_,_,_], []⟩) rfl rfl rfl rfl ?_
    refine EndsOps.nil ?_
    refine Ends.ret ?_
    exact ⟨rfl, rfl, hO3, (by have h := hol5; rw [ho, show i = l.length by omega, List.take_length] at h; exact h)⟩

theorem c54 (x : ByteArray) (hx : (B x).length ≤ 140737488351232) (al : Option Addr) (l : List Ed) (cl Nl ol : Nat) (vl : List Value) (yl zl : Nat) (hR : Right l (((B x).length : Nat) : Int)) (hB : l.length ≤ 1000000) (s : St) (Hl : Sl Ed.cells 3 s.t s.next al l Nl ol vl yl zl)  : EndsPure R1.T 54 [.string x, .slice al l.length cl] s (fun v t m => OL Ed.cells 3 97 s.next t m v (rmP (SameX x) l)) := by
  refine EndsPure.of (rs := [4]) (fr0 := ⟨[.string x, .slice al l.length cl, undef, undef, undef, undef, undef, undef, undef, undef, undef, undef, undef, undef, undef, undef, undef, undef, undef, undef, undef, undef, undef, undef, undef, undef, undef, undef, undef, undef, undef, undef, undef, undef, undef, undef, undef, undef, undef], []⟩) (by kernel_rfl : R1.T.fn 54 = some ⟨39, (Try.f54.body).getD .skip, [.tmp 4]⟩) rfl ?_
  have hO0 := Own.refl s
  have Ml := Hl.small
  simp only [Try.f54, Option.getD]
  refine Ends.seq ?_
  refine Ends.region ?_
  refine W.op (v := .slice none 0 0) (fr1 := ⟨[_,_,_,_, .slice none 0 0, _,_,_,_,_,_,_,_,_,_,_,_,_,_,_,_,_,_,_,_,_,_,_,_,_,_,_,_,_,_,_,_,_,_], []⟩) rfl rfl rfl rfl ?_
  refine EndsOps.nil ?_
  refine Ends.seq ?_
  refine Ends.region ?_
  refine W.op (v := .slice none 0 0) (fr1 := ⟨[_,_,_,_,_, .slice none 0 0, _,_,_,_,_,_,_,_,_,_,_,_,_,_,_,_,_,_,_,_,_,_,_,_,_,_,_,_,_,_,_,_,_], []⟩) rfl rfl rfl rfl ?_
  refine EndsOps.nil ?_
  refine Ends.seq ?_
  refine Ends.seq ?_
  refine Ends.region ?_
  refine W.op (v := .int .i64 0) (fr1 := ⟨[_,_,_,_,_,_, .int .i64 0, _,_,_,_,_,_,_,_,_,_,_,_,_,_,_,_,_,_,_,_,_,_,_,_,_,_,_,_,_,_,_,_], []⟩) rfl rfl rfl rfl ?_
  refine EndsOps.nil ?_
  refine W.block ?_
  refine Ends.loopJ (fun d jf1 fr s1 => ∃ (i : Nat) (v : Value), fr = ⟨[.string x, .slice al l.length cl, undef, undef, .slice none 0 0, v, .int .i64 ((i : Nat) : Int), (jf1 7), (jf1 8), (jf1 9), (jf1 10), (jf1 11), (jf1 12), (jf1 13), (jf1 14), (jf1 15), (jf1 16), (jf1 17), (jf1 18), (jf1 19), (jf1 20), (jf1 21), (jf1 22), (jf1 23), (jf1 24), (jf1 25), (jf1 26), (jf1 27), (jf1 28), (jf1 29), (jf1 30), (jf1 31), (jf1 32), (jf1 33), (jf1 34), (jf1 35), (jf1 36), (jf1 37), undef], []⟩ ∧ Own s s1 ∧ d = l.length - i ∧ (OL Ed.cells 3 97 s.next s1.t s1.next v (rmP (SameX x) (l.take i))) ∧ (i ≤ l.length)) ?_ _ _ _ ⟨0, .slice none 0 0, (by kernel_rfl), hO0, rfl, OL.nil, Nat.zero_le _⟩
  rintro d jf1 _ s2 ⟨i, v, rfl, hO3, hd4, hol5, hi⟩
  have gl0 := rm_len (SameX x) (l.take i)
  rw [List.length_take] at gl0
  refine Ends.seq ?_
  refine Ends.seq ?_
  refine Ends.region ?_
  refine W.op (v := .int .i64 ((i : Nat) : Int)) (fr1 := ⟨[_,_,_,_,_,_,_, .int .i64 ((i : Nat) : Int), _,_,_,_,_,_,_,_,_,_,_,_,_,_,_,_,_,_,_,_,_,_,_,_,_,_,_,_,_,_,_], []⟩) rfl rfl rfl rfl ?_
  refine W.op (v := .slice al l.length cl) (fr1 := ⟨[_,_,_,_,_,_,_,_, .slice al l.length cl, _,_,_,_,_,_,_,_,_,_,_,_,_,_,_,_,_,_,_,_,_,_,_,_,_,_,_,_,_,_], []⟩) rfl rfl rfl rfl ?_
  refine W.op (v := .int .i64 ((l.length : Nat) : Int)) (fr1 := ⟨[_,_,_,_,_,_,_,_,_, .int .i64 ((l.length : Nat) : Int), _,_,_,_,_,_,_,_,_,_,_,_,_,_,_,_,_,_,_,_,_,_,_,_,_,_,_,_,_], []⟩) rfl rfl rfl rfl ?_
  by_cases h6 : ((i : Nat) : Int) < ((l.length : Nat) : Int)
  · skip
    refine W.op (v := .bool true) (fr1 := ⟨[_,_,_,_,_,_,_,_,_,_, .bool true, _,_,_,_,_,_,_,_,_,_,_,_,_,_,_,_,_,_,_,_,_,_,_,_,_,_,_,_], []⟩) rfl (p_bin (ltT h6)) rfl rfl ?_
    refine EndsOps.nil ?_
    refine Ends.condT rfl ?_
    refine Ends.skip ?_
    refine Ends.seq ?_
    refine W.block ?_
    refine Ends.seq ?_
    refine Ends.drawW (bef := [0, 0, 0, 6, 14, 30, 0, 0, 192, 448, 960, 2047, 0, 0, 12288, 28672, 61440, 131071]) (by kernel_rfl) ?_
    refine D.op (v := .string x) (fr1 := ⟨[_,_,_,_,_,_,_,_,_,_,_,_,_, .string x, _,_,_,_,_,_,_,_,_,_,_,_,_,_,_,_,_,_,_,_,_,_,_,_,_], []⟩) rfl rfl rfl rfl rfl ?_
    refine D.op (v := .slice al l.length cl) (fr1 := ⟨[_,_,_,_,_,_,_,_,_,_,_,_,_,_, .slice al l.length cl, _,_,_,_,_,_,_,_,_,_,_,_,_,_,_,_,_,_,_,_,_,_,_,_], []⟩) rfl rfl rfl rfl rfl ?_
    refine D.op (v := .int .i64 ((i : Nat) : Int)) (fr1 := ⟨[_,_,_,_,_,_,_,_,_,_,_,_,_,_,_, .int .i64 ((i : Nat) : Int), _,_,_,_,_,_,_,_,_,_,_,_,_,_,_,_,_,_,_,_,_,_,_], []⟩) rfl rfl rfl rfl rfl ?_
    obtain ⟨e7, he8⟩ := ex_at (l := l) (i := i) (by omega)
    refine D.op (v := .pointer (some ⟨Nl, ol + i * 3, none⟩)) (fr1 := ⟨[_,_,_,_,_,_,_,_,_,_,_,_,_,_,_,_, .pointer (some ⟨Nl, ol + i * 3, none⟩), _,_,_,_,_,_,_,_,_,_,_,_,_,_,_,_,_,_,_,_,_,_], []⟩) rfl (p_ix (Sl.ix Hl rfl rfl he8 _)) rfl rfl rfl ?_
    refine D.op (v := .pointer (some ⟨Nl, ol + i * 3 + 0, none⟩)) (fr1 := ⟨[_,_,_,_,_,_,_,_,_,_,_,_,_,_,_,_,_, .pointer (some ⟨Nl, ol + i * 3 + 0, none⟩), _,_,_,_,_,_,_,_,_,_,_,_,_,_,_,_,_,_,_,_,_], []⟩) rfl rfl rfl rfl rfl ?_
    refine D.load (v := .int .i64 e7.lo) (fr1 := ⟨[_,_,_,_,_,_,_,_,_,_,_,_,_,_,_,_,_,_, .int .i64 e7.lo, _,_,_,_,_,_,_,_,_,_,_,_,_,_,_,_,_,_,_,_], []⟩) rfl rfl rfl (fun _ h => by cases h) (fun s1 hg => (p_load1 ⟨hg.trans ((Sl.row' (Hl.own hO3) he8)).get, ((Sl.row' (Hl.own hO3) he8)).lt⟩ rfl rfl rfl ((Hl.own hO3).at (j := 0) he8 rfl))) rfl ?_
    refine D.op (v := .slice al l.length cl) (fr1 := ⟨[_,_,_,_,_,_,_,_,_,_,_,_,_,_,_,_,_,_,_, .slice al l.length cl, _,_,_,_,_,_,_,_,_,_,_,_,_,_,_,_,_,_,_], []⟩) rfl rfl rfl rfl rfl ?_
    refine D.op (v := .int .i64 ((i : Nat) : Int)) (fr1 := ⟨[_,_,_,_,_,_,_,_,_,_,_,_,_,_,_,_,_,_,_,_, .int .i64 ((i : Nat) : Int), _,_,_,_,_,_,_,_,_,_,_,_,_,_,_,_,_,_], []⟩) rfl rfl rfl rfl rfl ?_
    refine D.op (v := .pointer (some ⟨Nl, ol + i * 3, none⟩)) (fr1 := ⟨[_,_,_,_,_,_,_,_,_,_,_,_,_,_,_,_,_,_,_,_,_, .pointer (some ⟨Nl, ol + i * 3, none⟩), _,_,_,_,_,_,_,_,_,_,_,_,_,_,_,_,_], []⟩) rfl (p_ix (Sl.ix Hl rfl rfl he8 _)) rfl rfl rfl ?_
    refine D.op (v := .pointer (some ⟨Nl, ol + i * 3 + 1, none⟩)) (fr1 := ⟨[_,_,_,_,_,_,_,_,_,_,_,_,_,_,_,_,_,_,_,_,_,_, .pointer (some ⟨Nl, ol + i * 3 + 1, none⟩), _,_,_,_,_,_,_,_,_,_,_,_,_,_,_,_], []⟩) rfl rfl rfl rfl rfl ?_
    refine D.load (v := .int .i64 e7.hi) (fr1 := ⟨[_,_,_,_,_,_,_,_,_,_,_,_,_,_,_,_,_,_,_,_,_,_,_, .int .i64 e7.hi, _,_,_,_,_,_,_,_,_,_,_,_,_,_,_], []⟩) rfl rfl rfl (fun _ h => by cases h) (fun s1 hg => (p_load1 ⟨hg.trans ((Sl.row' (Hl.own hO3) he8)).get, ((Sl.row' (Hl.own hO3) he8)).lt⟩ rfl rfl rfl ((Hl.own hO3).at (j := 1) he8 rfl))) rfl ?_
    have hw := right_mem hR (List.mem_of_getElem? he8)
    refine D.op (v := .string (sub x e7.lo.toNat e7.hi.toNat)) (fr1 := ⟨[_,_,_,_,_,_,_,_,_,_,_,_,_,_,_,_,_,_,_,_,_,_,_,_, .string (sub x e7.lo.toNat e7.hi.toNat), _,_,_,_,_,_,_,_,_,_,_,_,_,_], []⟩) rfl (p_sub rfl rfl rfl rfl (by omega) (by omega) (by omega)) rfl rfl rfl ?_
    refine D.op (v := .slice al l.length cl) (fr1 := ⟨[_,_,_,_,_,_,_,_,_,_,_,_,_,_,_,_,_,_,_,_,_,_,_,_,_, .slice al l.length cl, _,_,_,_,_,_,_,_,_,_,_,_,_], []⟩) rfl rfl rfl rfl rfl ?_
    refine D.op (v := .int .i64 ((i : Nat) : Int)) (fr1 := ⟨[_,_,_,_,_,_,_,_,_,_,_,_,_,_,_,_,_,_,_,_,_,_,_,_,_,_, .int .i64 ((i : Nat) : Int), _,_,_,_,_,_,_,_,_,_,_,_], []⟩) rfl rfl rfl rfl rfl ?_
    refine D.op (v := .pointer (some ⟨Nl, ol + i * 3, none⟩)) (fr1 := ⟨[_,_,_,_,_,_,_,_,_,_,_,_,_,_,_,_,_,_,_,_,_,_,_,_,_,_,_, .pointer (some ⟨Nl, ol + i * 3, none⟩), _,_,_,_,_,_,_,_,_,_,_], []⟩) rfl (p_ix (Sl.ix Hl rfl rfl he8 _)) rfl rfl rfl ?_
    refine D.op (v := .pointer (some ⟨Nl, ol + i * 3 + 2, none⟩)) (fr1 := ⟨[_,_,_,_,_,_,_,_,_,_,_,_,_,_,_,_,_,_,_,_,_,_,_,_,_,_,_,_, .pointer (some ⟨Nl, ol + i * 3 + 2, none⟩), _,_,_,_,_,_,_,_,_,_], []⟩) rfl rfl rfl rfl rfl ?_
    refine D.load (v := .string e7.tx) (fr1 := ⟨[_,_,_,_,_,_,_,_,_,_,_,_,_,_,_,_,_,_,_,_,_,_,_,_,_,_,_,_,_, .string e7.tx, _,_,_,_,_,_,_,_,_], []⟩) rfl rfl rfl (fun _ h => by cases h) (fun s1 hg => (p_load1 ⟨hg.trans ((Sl.row' (Hl.own hO3) he8)).get, ((Sl.row' (Hl.own hO3) he8)).lt⟩ rfl rfl rfl ((Hl.own hO3).at (j := 2) he8 rfl))) rfl ?_
    by_cases h9 : B (sub x e7.lo.toNat e7.hi.toNat) = B e7.tx
    · skip
      refine D.op (v := .bool false) (fr1 := ⟨[_,_,_,_,_,_,_,_,_,_,_,_,_,_,_,_,_,_,_,_,_,_,_,_,_,_,_,_,_,_, .bool false, _,_,_,_,_,_,_,_], []⟩) rfl (p_bin (sneF h9)) rfl rfl rfl ?_
      refine D.nil ?_
      refine Ends.condF rfl ?_
      refine Ends.skip ?_
      refine Ends.region ?_
      refine W.op (v := .int .i64 ((i : Nat) : Int)) (fr1 := ⟨[_,_,_,_,_,_,_,_,_,_,_, .int .i64 ((i : Nat) : Int), _,_,_,_,_,_,_,_,_,_,_,_,_,_,_,_,_,_,_,_,_,_,_,_,_,_,_], []⟩) rfl rfl rfl rfl ?_
      refine W.op (v := .int .i64 ((i + 1 : Nat) : Int)) (fr1 := ⟨[_,_,_,_,_,_,_,_,_,_,_,_, .int .i64 ((i + 1 : Nat) : Int), _,_,_,_,_,_,_,_,_,_,_,_,_,_,_,_,_,_,_,_,_,_,_,_,_,_], []⟩) rfl (p_bin (addI (by omega) (by omega) (by omega))) rfl rfl ?_
      refine W.op (v := .int .i64 ((i + 1 : Nat) : Int)) (fr1 := ⟨[_,_,_,_,_,_, .int .i64 ((i + 1 : Nat) : Int), _,_,_,_,_,_,_,_,_,_,_,_,_,_,_,_,_,_,_,_,_,_,_,_,_,_,_,_,_,_,_,_], []⟩) rfl rfl rfl rfl ?_
      refine EndsOps.nil ?_
      exact ⟨_, (by omega), i + 1, v, (by kernel_rfl), hO3, rfl, (by rw [rm_T he8 h9]; exact hol5), by omega⟩
    · skip
      refine D.op (v := .bool true) (fr1 := ⟨[_,_,_,_,_,_,_,_,_,_,_,_,_,_,_,_,_,_,_,_,_,_,_,_,_,_,_,_,_,_, .bool true, _,_,_,_,_,_,_,_], []⟩) rfl (p_bin (sneT h9)) rfl rfl rfl ?_
      refine D.nil ?_
      refine Ends.condT rfl ?_
      refine Ends.region ?_
      refine W.op (v := v) (fr1 := ⟨[_,_,_,_,_,_,_,_,_,_,_,_,_,_,_,_,_,_,_,_,_,_,_,_,_,_,_,_,_,_,_, v, _,_,_,_,_,_,_], []⟩) rfl rfl rfl rfl ?_
      refine W.op (v := .slice al l.length cl) (fr1 := ⟨[_,_,_,_,_,_,_,_,_,_,_,_,_,_,_,_,_,_,_,_,_,_,_,_,_,_,_,_,_,_,_,_, .slice al l.length cl, _,_,_,_,_,_], []⟩) rfl rfl rfl rfl ?_
      refine W.op (v := .int .i64 ((i : Nat) : Int)) (fr1 := ⟨[_,_,_,_,_,_,_,_,_,_,_,_,_,_,_,_,_,_,_,_,_,_,_,_,_,_,_,_,_,_,_,_,_, .int .i64 ((i : Nat) : Int), _,_,_,_,_], []⟩) rfl rfl rfl rfl ?_
      refine W.op (v := .pointer (some ⟨Nl, ol + i * 3, none⟩)) (fr1 := ⟨[_,_,_,_,_,_,_,_,_,_,_,_,_,_,_,_,_,_,_,_,_,_,_,_,_,_,_,_,_,_,_,_,_,_, .pointer (some ⟨Nl, ol + i * 3, none⟩), _,_,_,_], []⟩) rfl (p_ix (Sl.ix Hl rfl rfl he8 _)) rfl rfl ?_
      refine W.op (v := .agg ⟨[.int .i64 e7.lo, .int .i64 e7.hi, .string e7.tx]⟩) (fr1 := ⟨[_,_,_,_,_,_,_,_,_,_,_,_,_,_,_,_,_,_,_,_,_,_,_,_,_,_,_,_,_,_,_,_,_,_,_, .agg ⟨[.int .i64 e7.lo, .int .i64 e7.hi, .string e7.tx]⟩, _,_,_], []⟩) rfl (p_loadA (Sl.row' (Hl.own hO3) he8) rfl rfl rfl rfl ((Hl.own hO3).get _ _ he8)) rfl rfl ?_
      obtain ⟨N10, hN11⟩ : ∃ N, N = s2.next := ⟨_, rfl⟩
      have hb12 : s2.next ≤ N10 := hN11 ▸ (Own.refl s2).next
      refine W.newS (N := N10) (vs := [.int .i64 e7.lo, .int .i64 e7.hi, .string e7.tx]) (fr1 := ⟨[_,_,_,_,_,_,_,_,_,_,_,_,_,_,_,_,_,_,_,_,_,_,_,_,_,_,_,_,_,_,_,_,_,_,_,_, .slice (some ⟨N10, 0, none⟩) 1 1, _,_], []⟩) hO3 hN11 rfl (p_bs rfl rfl zero97 rfl (by decide) rfl rfl) rfl rfl ?_
      intro s13 hO14 hS15 r16 hB17
      have hE18 := (Own.refl s2).trans hS15
      refine W.append (c := Ed.cells) (l := (rmP (SameX x) (l.take i))) (x := ⟨e7.lo, e7.hi, e7.tx⟩) (fF := fun v19 => ⟨[_,_,_,_,_,_,_,_,_,_,_,_,_,_,_,_,_,_,_,_,_,_,_,_,_,_,_,_,_,_,_,_,_,_,_,_,_, v19, _], []⟩) app22m (fun _ => rfl) (by exact Ed.one) hO14 hE18 hol5 r16 rfl rfl rfl rfl (by omega) (by omega) (fun _ => rfl) ?_
      intro v19 s20 hO21 hnx22 hu23 hol24
      have r26 : Row s20.t s20.next _ _ _ _ := ⟨(hu23 _ hb12 r16.lt).trans r16.get, Nat.lt_of_lt_of_le r16.lt hnx22⟩
      refine W.op (v := v19) (fr1 := ⟨[_,_,_,_,_, v19, _,_,_,_,_,_,_,_,_,_,_,_,_,_,_,_,_,_,_,_,_,_,_,_,_,_,_,_,_,_,_,_,_], []⟩) rfl rfl rfl rfl ?_
      refine EndsOps.nil ?_
      refine Ends.region ?_
      refine W.op (v := .int .i64 ((i : Nat) : Int)) (fr1 := ⟨[_,_,_,_,_,_,_,_,_,_,_, .int .i64 ((i : Nat) : Int), _,_,_,_,_,_,_,_,_,_,_,_,_,_,_,_,_,_,_,_,_,_,_,_,_,_,_], []⟩) rfl rfl rfl rfl ?_
      refine W.op (v := .int .i64 ((i + 1 : Nat) : Int)) (fr1 := ⟨[_,_,_,_,_,_,_,_,_,_,_,_, .int .i64 ((i + 1 : Nat) : Int), _,_,_,_,_,_,_,_,_,_,_,_,_,_,_,_,_,_,_,_,_,_,_,_,_,_], []⟩) rfl (p_bin (addI (by omega) (by omega) (by omega))) rfl rfl ?_
      refine W.op (v := .int .i64 ((i + 1 : Nat) : Int)) (fr1 := ⟨[_,_,_,_,_,_, .int .i64 ((i + 1 : Nat) : Int), _,_,_,_,_,_,_,_,_,_,_,_,_,_,_,_,_,_,_,_,_,_,_,_,_,_,_,_,_,_,_,_], []⟩) rfl rfl rfl rfl ?_
      refine EndsOps.nil ?_
      exact ⟨_, (by omega), i + 1, v19, (by kernel_rfl), hO21, rfl, (by rw [rm_F he8 h9]; exact hol24), by omega⟩
  · skip
    refine W.op (v := .bool false) (fr1 := ⟨[_,_,_,_,_,_,_,_,_,_, .bool false, _,_,_,_,_,_,_,_,_,_,_,_,_,_,_,_,_,_,_,_,_,_,_,_,_,_,_,_], []⟩) rfl (p_bin (ltF h6)) rfl rfl ?_
    refine EndsOps.nil ?_
    refine Ends.condF rfl ?_
    refine Ends.exit ?_
    refine W.outT rfl ?_
    refine Ends.seq ?_
    refine Ends.region ?_
    refine W.op (v := v) (fr1 := ⟨[_,_,_,_,_,_,_,_,_,_,_,_,_,_,_,_,_,_,_,_,_,_,_,_,_,_,_,_,_,_,_,_,_,_,_,_,_,_, v], []⟩) rfl rfl rfl rfl ?_
    refine W.op (v := v) (fr1 := ⟨[_,_,_,_, v, _,_,_,_,_,_,_,_,_,_,_,_,_,_,_,_,_,_,_,_,_,_,_,_,_,_,_,_,_,_,_,_,_,_], []⟩) rfl rfl rfl rfl ?_
    refine EndsOps.nil ?_
    refine Ends.ret ?_
    exact ⟨rfl, rfl, hO3, (by have h := hol5; rw [show i = l.length by omega, List.take_length] at h; exact h)⟩
end Go.Ev.R1

