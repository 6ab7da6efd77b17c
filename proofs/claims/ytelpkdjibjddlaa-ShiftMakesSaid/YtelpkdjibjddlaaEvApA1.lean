/-
  EV: contracts of the first seat's functions.
-/
import Derived.Test.YtelpkdjibjddlaaEvBuC
import Derived.Test.YtelpkdjibjddlaaEvApplyLaw
set_option linter.unusedSimpArgs false
set_option linter.unusedVariables false
namespace Go.Ev.R1
open Go Go.Ev Go.Proofs
set_option maxRecDepth 10000
theorem errneqT {z : Int} (h : z = 0) : binop R1.T .neq 26 true (errV z) .nilIface = some (.bool false) := by subst h; rfl
theorem errneqF {z : Int} {c : Bool} (h : ¬ z = 0) : binop R1.T .neq 26 c (errV z) .nilIface = some (.bool true) := by unfold errV; rw [if_neg h]; rfl
theorem c69 (x : ByteArray) (hx : (B x).length ≤ 140737488351232) (al : Option Addr) (l : List Ed) (cl Nl ol : Nat) (vl : List Value) (yl zl : Nat) (s : St) (Hl : Sl Ed.cells 3 s.t s.next al l Nl ol vl yl zl)  : EndsPure R1.T 69 [.string x,.slice al l.length cl] s (fun v _ _ => v = errV (mayC (B x).length l)) := by
  refine EndsPure.of (rs := [4]) (fr0 := ⟨[.string x,.slice al l.length cl,undef,undef,undef,undef,undef,undef,undef,undef,undef,undef,undef,undef,undef,undef,undef,undef,undef,undef],[]⟩) (by kernel_rfl : R1.T.fn 69 = some ⟨20,(Try.f69.body).getD .skip,[.tmp 4]⟩) rfl ?_
  have hO0 := Own.refl s
  have Ml := Hl.small
  simp only [Try.f69,Option.getD]
  refine Ends.seq ?_
  refine Ends.region ?_
  refine W.op (v := .nilIface) (fr1 := ⟨[_,_,_,_,.nilIface,_,_,_,_,_,_,_,_,_,_,_,_,_,_,_],[]⟩) rfl rfl rfl rfl ?_
  refine EndsOps.nil ?_
  refine Ends.seq ?_
  refine W.block ?_
  refine Ends.seq ?_
  refine Ends.region ?_
  refine W.op (v := .slice al l.length cl) (fr1 := ⟨[_,_,_,_,_,_,.slice al l.length cl,_,_,_,_,_,_,_,_,_,_,_,_,_],[]⟩) rfl rfl rfl rfl ?_
  refine W.op (v := .string x) (fr1 := ⟨[_,_,_,_,_,_,_,.string x,_,_,_,_,_,_,_,_,_,_,_,_],[]⟩) rfl rfl rfl rfl ?_
  refine W.op (v := .int .i64 (((B x).length : Nat) : Int)) (fr1 := ⟨[_,_,_,_,_,_,_,_,.int .i64 (((B x).length : Nat) : Int),_,_,_,_,_,_,_,_,_,_,_],[]⟩) rfl rfl rfl rfl ?_
  by_cases h1 : Right l (((B x).length : Nat) : Int)
  · skip
    refine W.call (ar := [.slice al l.length cl,.int .i64 (((B x).length : Nat) : Int)]) (X := .bool true) (fr1 := ⟨[_,_,_,_,_,_,_,_,_,.bool true,_,_,_,_,_,_,_,_,_,_],[]⟩) hO0 rfl rfl rfl rfl ((c35 _ _ _ _ _ _ _ _ (((B x).length : Nat) : Int) _ (Hl.own hO0)).mono fun v _ _ h => h.trans (congrArg Value.bool (decide_eq_true h1))) rfl ?_
    intro s2 hO3 hS4
    refine W.op (v := .bool false) (fr1 := ⟨[_,_,_,_,_,_,_,_,_,_,.bool false,_,_,_,_,_,_,_,_,_],[]⟩) rfl rfl rfl rfl ?_
    refine W.op (v := .bool false) (fr1 := ⟨[_,_,_,_,_,.bool false,_,_,_,_,_,_,_,_,_,_,_,_,_,_],[]⟩) rfl rfl rfl rfl ?_
    refine EndsOps.nil ?_
    refine Ends.condF rfl ?_
    refine Ends.seq ?_
    refine Ends.region ?_
    refine W.op (v := .string x) (fr1 := ⟨[_,_,_,_,_,_,_,_,_,_,_,_,_,.string x,_,_,_,_,_,_],[]⟩) rfl rfl rfl rfl ?_
    refine W.op (v := .int .i64 (((B x).length : Nat) : Int)) (fr1 := ⟨[_,_,_,_,_,_,_,_,_,_,_,_,_,_,.int .i64 (((B x).length : Nat) : Int),_,_,_,_,_],[]⟩) rfl rfl rfl rfl ?_
    refine W.op (v := .slice al l.length cl) (fr1 := ⟨[_,_,_,_,_,_,_,_,_,_,_,_,_,_,_,.slice al l.length cl,_,_,_,_],[]⟩) rfl rfl rfl rfl ?_
    refine W.call (ar := [.slice al l.length cl]) (X := .int .i64 (W (growS l))) (fr1 := ⟨[_,_,_,_,_,_,_,_,_,_,_,_,_,_,_,_,.int .i64 (W (growS l)),_,_,_],[]⟩) hO3 rfl rfl rfl rfl (c72 _ _ _ _ _ _ _ _ _ (Hl.own hO3)) rfl ?_
    intro s5 hO6 hS7
    refine W.op (v := .int .i64 (W ((((B x).length : Nat) : Int) + W (growS l)))) (fr1 := ⟨[_,_,_,_,_,_,_,_,_,_,_,_,_,_,_,_,_,.int .i64 (W ((((B x).length : Nat) : Int) + W (growS l))),_,_],[]⟩) rfl (p_bin addW) rfl rfl ?_
    by_cases h8 : (65536 : Int) < W ((((B x).length : Nat) : Int) + W (growS l))
    · skip
      refine W.op (v := .bool true) (fr1 := ⟨[_,_,_,_,_,_,_,_,_,_,_,_,_,_,_,_,_,_,.bool true,_],[]⟩) rfl (p_bin (gtT h8)) rfl rfl ?_
      refine W.op (v := .bool true) (fr1 := ⟨[_,_,_,_,_,_,_,_,_,_,_,_,.bool true,_,_,_,_,_,_,_],[]⟩) rfl rfl rfl rfl ?_
      refine EndsOps.nil ?_
      refine Ends.condT rfl ?_
      refine Ends.seq ?_
      refine Ends.region ?_
      refine W.op (v := .iface 37 (.int .i64 4)) (fr1 := ⟨[_,_,_,_,_,_,_,_,_,_,_,_,_,_,_,_,_,_,_,.iface 37 (.int .i64 4)],[]⟩) rfl rfl rfl rfl ?_
      refine W.op (v := .iface 37 (.int .i64 4)) (fr1 := ⟨[_,_,_,_,.iface 37 (.int .i64 4),_,_,_,_,_,_,_,_,_,_,_,_,_,_,_],[]⟩) rfl rfl rfl rfl ?_
      refine EndsOps.nil ?_
      refine Ends.ret ?_
      exact ⟨rfl,rfl,hO6,by
        show Value.iface 37 (.int .i64 4) = errV (mayC (B x).length l)
        rw [may4 h1 h8]; rfl⟩
    · skip
      refine W.op (v := .bool false) (fr1 := ⟨[_,_,_,_,_,_,_,_,_,_,_,_,_,_,_,_,_,_,.bool false,_],[]⟩) rfl (p_bin (gtF h8)) rfl rfl ?_
      refine W.op (v := .bool false) (fr1 := ⟨[_,_,_,_,_,_,_,_,_,_,_,_,.bool false,_,_,_,_,_,_,_],[]⟩) rfl rfl rfl rfl ?_
      refine EndsOps.nil ?_
      refine Ends.condF rfl ?_
      refine Ends.skip ?_
      refine Ends.seq ?_
      refine Ends.region ?_
      refine W.op (v := .nilIface) (fr1 := ⟨[_,_,_,_,.nilIface,_,_,_,_,_,_,_,_,_,_,_,_,_,_,_],[]⟩) rfl rfl rfl rfl ?_
      refine EndsOps.nil ?_
      refine Ends.ret ?_
      exact ⟨rfl,rfl,hO6,by
        show Value.nilIface = errV (mayC (B x).length l)
        rw [mayOk h1 h8]; rfl⟩
  · skip
    refine W.call (ar := [.slice al l.length cl,.int .i64 (((B x).length : Nat) : Int)]) (X := .bool false) (fr1 := ⟨[_,_,_,_,_,_,_,_,_,.bool false,_,_,_,_,_,_,_,_,_,_],[]⟩) hO0 rfl rfl rfl rfl ((c35 _ _ _ _ _ _ _ _ (((B x).length : Nat) : Int) _ (Hl.own hO0)).mono fun v _ _ h => h.trans (congrArg Value.bool (decide_eq_false h1))) rfl ?_
    intro s9 hO10 hS11
    refine W.op (v := .bool true) (fr1 := ⟨[_,_,_,_,_,_,_,_,_,_,.bool true,_,_,_,_,_,_,_,_,_],[]⟩) rfl rfl rfl rfl ?_
    refine W.op (v := .bool true) (fr1 := ⟨[_,_,_,_,_,.bool true,_,_,_,_,_,_,_,_,_,_,_,_,_,_],[]⟩) rfl rfl rfl rfl ?_
    refine EndsOps.nil ?_
    refine Ends.condT rfl ?_
    refine Ends.seq ?_
    refine Ends.region ?_
    refine W.op (v := .iface 37 (.int .i64 2)) (fr1 := ⟨[_,_,_,_,_,_,_,_,_,_,_,.iface 37 (.int .i64 2),_,_,_,_,_,_,_,_],[]⟩) rfl rfl rfl rfl ?_
    refine W.op (v := .iface 37 (.int .i64 2)) (fr1 := ⟨[_,_,_,_,.iface 37 (.int .i64 2),_,_,_,_,_,_,_,_,_,_,_,_,_,_,_],[]⟩) rfl rfl rfl rfl ?_
    refine EndsOps.nil ?_
    refine Ends.ret ?_
    exact ⟨rfl,rfl,hO10,by
      show Value.iface 37 (.int .i64 2) = errV (mayC (B x).length l)
      rw [may2 h1]; rfl⟩
theorem c29T (x : ByteArray) (hx : (B x).length ≤ 140737488351232) (al : Option Addr) (l : List Ed) (cl Nl ol : Nat) (vl : List Value) (yl zl : Nat) (hS : (B x).length + sumT l ≤ 1000000) (h0 : mayC (B x).length l = 0) (s : St) (Hl : Sl Ed.cells 3 s.t s.next al l Nl ol vl yl zl)  : EndsPure R1.T 29 [.string x,.slice al l.length cl] s (fun v _ _ => v = .tuple ⟨[.string (apS x l),.nilIface]⟩) := by
  refine EndsPure.of (rs := [4,5]) (fr0 := ⟨[.string x,.slice al l.length cl,undef,undef,undef,undef,undef,undef,undef,undef,undef,undef,undef,undef,undef,undef,undef,undef,undef,undef,undef,undef,undef,undef,undef,undef,undef,undef,undef,undef,undef,undef,undef,undef,undef,undef,undef,undef,undef,undef],[]⟩) (by kernel_rfl : R1.T.fn 29 = some ⟨40,(Try.f29.body).getD .skip,[.tmp 4,.tmp 5]⟩) rfl ?_
  have hO0 := Own.refl s
  have Ml := Hl.small
  have hR := (may0 h0).1
  simp only [Try.f29,Option.getD]
  refine Ends.seq ?_
  refine Ends.region ?_
  refine W.op (v := .string ByteArray.empty) (fr1 := ⟨[_,_,_,_,.string ByteArray.empty,_,_,_,_,_,_,_,_,_,_,_,_,_,_,_,_,_,_,_,_,_,_,_,_,_,_,_,_,_,_,_,_,_,_,_],[]⟩) rfl rfl rfl rfl ?_
  refine W.op (v := .nilIface) (fr1 := ⟨[_,_,_,_,_,.nilIface,_,_,_,_,_,_,_,_,_,_,_,_,_,_,_,_,_,_,_,_,_,_,_,_,_,_,_,_,_,_,_,_,_,_],[]⟩) rfl rfl rfl rfl ?_
  refine EndsOps.nil ?_
  refine Ends.seq ?_
  refine Ends.seq ?_
  refine Ends.region ?_
  refine W.op (v := .string x) (fr1 := ⟨[_,_,_,_,_,_,_,_,_,_,_,.string x,_,_,_,_,_,_,_,_,_,_,_,_,_,_,_,_,_,_,_,_,_,_,_,_,_,_,_,_],[]⟩) rfl rfl rfl rfl ?_
  refine W.op (v := .slice al l.length cl) (fr1 := ⟨[_,_,_,_,_,_,_,_,_,_,_,_,.slice al l.length cl,_,_,_,_,_,_,_,_,_,_,_,_,_,_,_,_,_,_,_,_,_,_,_,_,_,_,_],[]⟩) rfl rfl rfl rfl ?_
  refine W.call (ar := [.string x,.slice al l.length cl]) (X := errV (mayC (B x).length l)) (fr1 := ⟨[_,_,_,_,_,_,_,_,_,_,_,_,_,errV (mayC (B x).length l),_,_,_,_,_,_,_,_,_,_,_,_,_,_,_,_,_,_,_,_,_,_,_,_,_,_],[]⟩) hO0 rfl rfl rfl rfl (c69 x hx _ _ _ _ _ _ _ _ _ (Hl.own hO0)) rfl ?_
  intro s1 hO2 hS3
  refine W.op (v := errV (mayC (B x).length l)) (fr1 := ⟨[_,_,_,_,_,_,errV (mayC (B x).length l),_,_,_,_,_,_,_,_,_,_,_,_,_,_,_,_,_,_,_,_,_,_,_,_,_,_,_,_,_,_,_,_,_],[]⟩) rfl rfl rfl rfl ?_
  refine EndsOps.nil ?_
  refine Ends.seq ?_
  refine Ends.region ?_
  refine W.op (v := errV (mayC (B x).length l)) (fr1 := ⟨[_,_,_,_,_,_,_,_,_,_,_,_,_,_,errV (mayC (B x).length l),_,_,_,_,_,_,_,_,_,_,_,_,_,_,_,_,_,_,_,_,_,_,_,_,_],[]⟩) rfl rfl rfl rfl ?_
  refine W.op (v := .bool false) (fr1 := ⟨[_,_,_,_,_,_,_,_,_,_,_,_,_,_,_,.bool false,_,_,_,_,_,_,_,_,_,_,_,_,_,_,_,_,_,_,_,_,_,_,_,_],[]⟩) rfl (p_bin (errneqT h0)) rfl rfl ?_
  refine EndsOps.nil ?_
  refine Ends.condF rfl ?_
  refine Ends.skip ?_
  refine Ends.seq ?_
  refine Ends.region ?_
  obtain ⟨N4,hN5⟩ : ∃ N,N = s1.next := ⟨_,rfl⟩
  refine W.new (N := N4) (vs := [.pointer none,.slice none 0 0]) (fr1 := ⟨[_,_,_,_,_,_,_,.pointer (some ⟨N4,0,none⟩),_,_,_,_,_,_,_,_,_,_,_,_,_,_,_,_,_,_,_,_,_,_,_,_,_,_,_,_,_,_,_,_],[]⟩) hO2 hN5 rfl (p_alloc zero112 rfl) rfl rfl ?_
  intro s6 hO7 hS8 r9 hB10
  have hbd11 : Bd 112 5 s.next s6.t s6.next N4 [] := ⟨hB10,_,_,r9,.inl rfl,OL.nil,fun _ => rfl⟩
  refine EndsOps.nil ?_
  refine Ends.seq ?_
  refine Ends.region ?_
  refine W.op (v := .int .i64 0) (fr1 := ⟨[_,_,_,_,_,_,_,_,.int .i64 0,_,_,_,_,_,_,_,_,_,_,_,_,_,_,_,_,_,_,_,_,_,_,_,_,_,_,_,_,_,_,_],[]⟩) rfl rfl rfl rfl ?_
  refine EndsOps.nil ?_
  refine Ends.seq ?_
  refine Ends.seq ?_
  refine Ends.region ?_
  refine W.op (v := .slice al l.length cl) (fr1 := ⟨[_,_,_,_,_,_,_,_,_,_,_,_,_,_,_,_,_,.slice al l.length cl,_,_,_,_,_,_,_,_,_,_,_,_,_,_,_,_,_,_,_,_,_,_],[]⟩) rfl rfl rfl rfl ?_
  refine W.op (v := .int .i64 ((l.length : Nat) : Int)) (fr1 := ⟨[_,_,_,_,_,_,_,_,_,_,_,_,_,_,_,_,_,_,.int .i64 ((l.length : Nat) : Int),_,_,_,_,_,_,_,_,_,_,_,_,_,_,_,_,_,_,_,_,_],[]⟩) rfl rfl rfl rfl ?_
  refine W.op (v := .int .i64 0) (fr1 := ⟨[_,_,_,_,_,_,_,_,_,_,_,_,_,_,_,_,_,_,_,.int .i64 0,_,_,_,_,_,_,_,_,_,_,_,_,_,_,_,_,_,_,_,_],[]⟩) rfl rfl rfl rfl ?_
  refine EndsOps.nil ?_
  refine W.block ?_
  refine Ends.loopInv (fun d fr s1 => ∃ (i : Nat) (q : Int) (j10 j20 j21 j22 j23 j24 j25 j26 j27 j28 j29 j30 j31 j32 j33 j34 : Value),fr = ⟨[.string x,.slice al l.length cl,undef,undef,.string ByteArray.empty,.nilIface,errV (mayC (B x).length l),.pointer (some ⟨N4,0,none⟩),.int .i64 q,undef,j10,.string x,.slice al l.length cl,errV (mayC (B x).length l),errV (mayC (B x).length l),.bool false,undef,.slice al l.length cl,.int .i64 ((l.length : Nat) : Int),.int .i64 ((i : Nat) : Int),j20,j21,j22,j23,j24,j25,j26,j27,j28,j29,j30,j31,j32,j33,j34,undef,undef,undef,undef,undef],[]⟩ ∧ Own s s1 ∧ d = l.length - i ∧ (i ≤ l.length) ∧ (q = (apF x (l.take i)).2) ∧ (0 ≤ q) ∧ (q ≤ (((B x).length : Nat) : Int)) ∧ (∀ e,l[i]? = some e → q ≤ e.lo) ∧ (((apF x (l.take i)).1.length : Int) ≤ q + sumT (l.take i)) ∧ (Bd 112 5 s.next s1.t s1.next N4 (apF x (l.take i)).1)) ?_ _ _ _ ⟨0,0,_,_,_,_,_,_,_,_,_,_,_,_,_,_,_,_,rfl,hO7,rfl,Nat.zero_le _,rfl,Int.le_refl _,by omega,(fun e he => (hR.2 0 (by have := (List.getElem?_eq_some_iff.1 he).1; omega) e he).1.1),by simp [apF],hbd11⟩
  rintro d _ s12 ⟨i,q,j10,j20,j21,j22,j23,j24,j25,j26,j27,j28,j29,j30,j31,j32,j33,j34,rfl,hO13,hd14,hi,hq,hq0,hqn,hlt,hxl,hbd⟩
  refine Ends.seq ?_
  refine Ends.region ?_
  by_cases h15 : ((i : Nat) : Int) < ((l.length : Nat) : Int)
  · skip
    refine W.op (v := .bool true) (fr1 := ⟨[_,_,_,_,_,_,_,_,_,_,_,_,_,_,_,_,_,_,_,_,.bool true,_,_,_,_,_,_,_,_,_,_,_,_,_,_,_,_,_,_,_],[]⟩) rfl (p_bin (ltT h15)) rfl rfl ?_
    refine EndsOps.nil ?_
    refine Ends.seq ?_
    refine Ends.condT rfl ?_
    refine Ends.skip ?_
    refine Ends.seq ?_
    refine W.block ?_
    refine Ends.seq ?_
    refine Ends.region ?_
    obtain ⟨e16,he17⟩ := ex_at (l := l) (i := i) (by omega)
    refine W.op (v := .pointer (some ⟨Nl,ol + i * 3,none⟩)) (fr1 := ⟨[_,_,_,_,_,_,_,_,_,_,_,_,_,_,_,_,_,_,_,_,_,.pointer (some ⟨Nl,ol + i * 3,none⟩),_,_,_,_,_,_,_,_,_,_,_,_,_,_,_,_,_,_],[]⟩) rfl (p_ix (Sl.ix Hl rfl rfl he17 _)) rfl rfl ?_
    refine W.op (v := .agg ⟨[.int .i64 e16.lo,.int .i64 e16.hi,.string e16.tx]⟩) (fr1 := ⟨[_,_,_,_,_,_,_,_,_,_,_,_,_,_,_,_,_,_,_,_,_,_,.agg ⟨[.int .i64 e16.lo,.int .i64 e16.hi,.string e16.tx]⟩,_,_,_,_,_,_,_,_,_,_,_,_,_,_,_,_,_],[]⟩) rfl (p_loadA (Sl.row' (Hl.own hO13) he17) rfl rfl rfl rfl ((Hl.own hO13).get _ _ he17)) rfl rfl ?_
    obtain ⟨N18,hN19⟩ : ∃ N,N = s12.next := ⟨_,rfl⟩
    have hb20 : s12.next ≤ N18 := hN19 ▸ (Own.refl s12).next
    refine W.new (N := N18) (vs := [.int .i64 0,.int .i64 0,.string ByteArray.empty]) (fr1 := ⟨[_,_,_,_,_,_,_,_,_,_,.pointer (some ⟨N18,0,none⟩),_,_,_,_,_,_,_,_,_,_,_,_,_,_,_,_,_,_,_,_,_,_,_,_,_,_,_,_,_],[]⟩) hO13 hN19 rfl (p_alloc zero97 rfl) rfl rfl ?_
    intro s21 hO22 hS23 r24 hB25
    have hE26 := (Own.refl s12).trans hS23
    refine W.store2 (cs := [.int .i64 e16.lo,.int .i64 e16.hi,.string e16.tx]) (vs' := [.int .i64 e16.lo,.int .i64 e16.hi,.string e16.tx]) (fr1 := ⟨[_,_,_,_,_,_,_,_,_,_,_,_,_,_,_,_,_,_,_,_,_,_,_,_,_,_,_,_,_,_,_,_,_,_,_,_,_,_,_,_],[]⟩) hO22 r24 hB25 rfl rfl rfl rfl (by kernel_rfl) (by simp) (by simp [END,oneCell]) rfl rfl ?_
    intro s27 hO28 hn29 hu30 r31 hX32
    have hE33 := hX32 s12 hE26 hb20
    refine EndsOps.nil ?_
    refine Ends.seq ?_
    refine Ends.region ?_
    refine W.op (v := .string x) (fr1 := ⟨[_,_,_,_,_,_,_,_,_,_,_,_,_,_,_,_,_,_,_,_,_,_,_,.string x,_,_,_,_,_,_,_,_,_,_,_,_,_,_,_,_],[]⟩) rfl rfl rfl rfl ?_
    refine W.op (v := .int .i64 q) (fr1 := ⟨[_,_,_,_,_,_,_,_,_,_,_,_,_,_,_,_,_,_,_,_,_,_,_,_,.int .i64 q,_,_,_,_,_,_,_,_,_,_,_,_,_,_,_],[]⟩) rfl rfl rfl rfl ?_
    refine W.op (v := .pointer (some ⟨N18,0,none⟩)) (fr1 := ⟨[_,_,_,_,_,_,_,_,_,_,_,_,_,_,_,_,_,_,_,_,_,_,_,_,_,.pointer (some ⟨N18,0,none⟩),_,_,_,_,_,_,_,_,_,_,_,_,_,_],[]⟩) rfl rfl rfl rfl ?_
    refine W.op (v := .int .i64 e16.lo) (fr1 := ⟨[_,_,_,_,_,_,_,_,_,_,_,_,_,_,_,_,_,_,_,_,_,_,_,_,_,_,.int .i64 e16.lo,_,_,_,_,_,_,_,_,_,_,_,_,_],[]⟩) rfl (p_load1 r31 rfl rfl rfl rfl) rfl rfl ?_
    have hW := (hR.2 i (by omega) _ he17).1
    have hq1 := hlt _ he17
    refine W.op (v := .string (sub x q.toNat e16.lo.toNat)) (fr1 := ⟨[_,_,_,_,_,_,_,_,_,_,_,_,_,_,_,_,_,_,_,_,_,_,_,_,_,_,_,.string (sub x q.toNat e16.lo.toNat),_,_,_,_,_,_,_,_,_,_,_,_],[]⟩) rfl (p_sub rfl rfl rfl rfl (by omega) (by omega) (by omega)) rfl rfl ?_
    have gs := sumT_step he17
    have gS := sumT_le l (i + 1)
    have g1 : (B (sub x q.toNat e16.lo.toNat)).length = e16.lo.toNat - q.toNat := sub_len (by omega) (by omega)
    refine W.callOn (ar := [.pointer (some ⟨N4,0,none⟩),.string (sub x q.toNat e16.lo.toNat)]) (fF := fun v34 => ⟨[_,_,_,_,_,_,_,_,_,_,_,_,_,_,_,_,_,_,_,_,_,_,_,_,_,_,_,_,v34,_,_,_,_,_,_,_,_,_,_,_],[]⟩) rfl rfl rfl rfl (c70 N4 ((apF x (l.take i)).1) (sub x q.toNat e16.lo.toNat) (by omega) s _ hO28 (hbd.own hE33)) (fun _ => rfl) ?_
    intro v34 s35 hR38 hO36 hn37
    obtain ⟨rfl,hbd39,hF40⟩ := hR38
    have r41 := hF40 _ _ _ _ r31 (by decide)
    refine EndsOps.nil ?_
    refine Ends.seq ?_
    refine Ends.region ?_
    refine W.op (v := .pointer (some ⟨N18,2,none⟩)) (fr1 := ⟨[_,_,_,_,_,_,_,_,_,_,_,_,_,_,_,_,_,_,_,_,_,_,_,_,_,_,_,_,_,.pointer (some ⟨N18,2,none⟩),_,_,_,_,_,_,_,_,_,_],[]⟩) rfl rfl rfl rfl ?_
    refine W.op (v := .string e16.tx) (fr1 := ⟨[_,_,_,_,_,_,_,_,_,_,_,_,_,_,_,_,_,_,_,_,_,_,_,_,_,_,_,_,_,_,.string e16.tx,_,_,_,_,_,_,_,_,_],[]⟩) rfl (p_load1 r41 rfl rfl rfl rfl) rfl rfl ?_
    have g2 : (((apF x (l.take i)).1 ++ B (sub x q.toNat e16.lo.toNat))).length = _ := List.length_append
    refine W.callOn (ar := [.pointer (some ⟨N4,0,none⟩),.string e16.tx]) (fF := fun v42 => ⟨[_,_,_,_,_,_,_,_,_,_,_,_,_,_,_,_,_,_,_,_,_,_,_,_,_,_,_,_,_,_,_,v42,_,_,_,_,_,_,_,_],[]⟩) rfl rfl rfl rfl (c70 N4 ((apF x (l.take i)).1 ++ B (sub x q.toNat e16.lo.toNat)) e16.tx (by omega) s _ hO36 hbd39) (fun _ => rfl) ?_
    intro v42 s43 hR46 hO44 hn45
    obtain ⟨rfl,hbd47,hF48⟩ := hR46
    have r49 := hF48 _ _ _ _ r41 (by decide)
    refine EndsOps.nil ?_
    refine Ends.region ?_
    refine W.op (v := .pointer (some ⟨N18,1,none⟩)) (fr1 := ⟨[_,_,_,_,_,_,_,_,_,_,_,_,_,_,_,_,_,_,_,_,_,_,_,_,_,_,_,_,_,_,_,_,.pointer (some ⟨N18,1,none⟩),_,_,_,_,_,_,_],[]⟩) rfl rfl rfl rfl ?_
    refine W.op (v := .int .i64 e16.hi) (fr1 := ⟨[_,_,_,_,_,_,_,_,_,_,_,_,_,_,_,_,_,_,_,_,_,_,_,_,_,_,_,_,_,_,_,_,_,.int .i64 e16.hi,_,_,_,_,_,_],[]⟩) rfl (p_load1 r49 rfl rfl rfl rfl) rfl rfl ?_
    refine W.op (v := .int .i64 e16.hi) (fr1 := ⟨[_,_,_,_,_,_,_,_,.int .i64 e16.hi,_,_,_,_,_,_,_,_,_,_,_,_,_,_,_,_,_,_,_,_,_,_,_,_,_,_,_,_,_,_,_],[]⟩) rfl rfl rfl rfl ?_
    refine EndsOps.nil ?_
    refine Ends.region ?_
    refine W.op (v := .int .i64 ((i + 1 : Nat) : Int)) (fr1 := ⟨[_,_,_,_,_,_,_,_,_,_,_,_,_,_,_,_,_,_,_,_,_,_,_,_,_,_,_,_,_,_,_,_,_,_,.int .i64 ((i + 1 : Nat) : Int),_,_,_,_,_],[]⟩) rfl (p_bin (addI (by omega) (by omega) (by omega))) rfl rfl ?_
    refine W.op (v := .int .i64 ((i + 1 : Nat) : Int)) (fr1 := ⟨[_,_,_,_,_,_,_,_,_,_,_,_,_,_,_,_,_,_,_,.int .i64 ((i + 1 : Nat) : Int),_,_,_,_,_,_,_,_,_,_,_,_,_,_,_,_,_,_,_,_],[]⟩) rfl rfl rfl rfl ?_
    refine EndsOps.nil ?_
    exact ⟨_,(by omega),i + 1,e16.hi,_,_,_,_,_,_,_,_,_,_,_,_,_,_,_,_,rfl,hO44,rfl,by omega,by rw [apF_step he17]; rfl,by omega,by omega,fun e' he' => (hR.at he' he17 rfl).1,by rw [apF_step he17]; simp only [apStep,List.length_append]; rw [← hq]; omega,(by rw [apF_step he17]; simp only [apStep]; rw [← hq]; exact hbd47)⟩
  · skip
    refine W.op (v := .bool false) (fr1 := ⟨[_,_,_,_,_,_,_,_,_,_,_,_,_,_,_,_,_,_,_,_,.bool false,_,_,_,_,_,_,_,_,_,_,_,_,_,_,_,_,_,_,_],[]⟩) rfl (p_bin (ltF h15)) rfl rfl ?_
    refine EndsOps.nil ?_
    refine Ends.seq ?_
    refine Ends.condF rfl ?_
    refine Ends.exit ?_
    refine W.outT rfl ?_
    refine Ends.seq ?_
    refine Ends.region ?_
    refine W.op (v := .string x) (fr1 := ⟨[_,_,_,_,_,_,_,_,_,_,_,_,_,_,_,_,_,_,_,_,_,_,_,_,_,_,_,_,_,_,_,_,_,_,_,.string x,_,_,_,_],[]⟩) rfl rfl rfl rfl ?_
    refine W.op (v := .int .i64 q) (fr1 := ⟨[_,_,_,_,_,_,_,_,_,_,_,_,_,_,_,_,_,_,_,_,_,_,_,_,_,_,_,_,_,_,_,_,_,_,_,_,.int .i64 q,_,_,_],[]⟩) rfl rfl rfl rfl ?_
    refine W.op (v := .string (sub x q.toNat (B x).length)) (fr1 := ⟨[_,_,_,_,_,_,_,_,_,_,_,_,_,_,_,_,_,_,_,_,_,_,_,_,_,_,_,_,_,_,_,_,_,_,_,_,_,.string (sub x q.toNat (B x).length),_,_],[]⟩) rfl (p_subFrom rfl rfl rfl (by omega) (by omega)) rfl rfl ?_
    have gS := sumT_le l i
    have g1 : (B (sub x q.toNat (B x).length)).length = (B x).length - q.toNat := sub_len (by omega) (by omega)
    refine W.callOn (ar := [.pointer (some ⟨N4,0,none⟩),.string (sub x q.toNat (B x).length)]) (fF := fun v50 => ⟨[_,_,_,_,_,_,_,_,_,_,_,_,_,_,_,_,_,_,_,_,_,_,_,_,_,_,_,_,_,_,_,_,_,_,_,_,_,_,v50,_],[]⟩) rfl rfl rfl rfl (c70 N4 ((apF x (l.take i)).1) (sub x q.toNat (B x).length) (by omega) s _ hO13 hbd) (fun _ => rfl) ?_
    intro v50 s51 hR54 hO52 hn53
    obtain ⟨rfl,hbd55,hF56⟩ := hR54
    refine EndsOps.nil ?_
    refine Ends.seq ?_
    refine Ends.region ?_
    refine W.callOn (ar := [.pointer (some ⟨N4,0,none⟩)]) (fF := fun v57 => ⟨[_,_,_,_,_,_,_,_,_,_,_,_,_,_,_,_,_,_,_,_,_,_,_,_,_,_,_,_,_,_,_,_,_,_,_,_,_,_,_,v57],[]⟩) rfl rfl rfl rfl (c71 N4 ((apF x (l.take i)).1 ++ B (sub x q.toNat (B x).length)) s _ hO52 hbd55) (fun _ => rfl) ?_
    intro v57 s58 hR61 hO59 hn60
    obtain ⟨rfl,hF62⟩ := hR61
    refine W.op (v := .string (⟨⟨((apF x (l.take i)).1 ++ B (sub x q.toNat (B x).length))⟩⟩)) (fr1 := ⟨[_,_,_,_,.string (⟨⟨((apF x (l.take i)).1 ++ B (sub x q.toNat (B x).length))⟩⟩),_,_,_,_,_,_,_,_,_,_,_,_,_,_,_,_,_,_,_,_,_,_,_,_,_,_,_,_,_,_,_,_,_,_,_],[]⟩) rfl rfl rfl rfl ?_
    refine W.op (v := .nilIface) (fr1 := ⟨[_,_,_,_,_,.nilIface,_,_,_,_,_,_,_,_,_,_,_,_,_,_,_,_,_,_,_,_,_,_,_,_,_,_,_,_,_,_,_,_,_,_],[]⟩) rfl rfl rfl rfl ?_
    refine EndsOps.nil ?_
    refine Ends.ret ?_
    exact ⟨rfl,rfl,hO59,by
      show Value.tuple ⟨[.string (⟨⟨((apF x (l.take i)).1 ++ B (sub x q.toNat (B x).length))⟩⟩),.nilIface]⟩ = Value.tuple ⟨[.string (apS x l),.nilIface]⟩
      rw [hq,show i = l.length by omega,List.take_length]; rfl⟩
theorem c29F (x : ByteArray) (hx : (B x).length ≤ 140737488351232) (al : Option Addr) (l : List Ed) (cl Nl ol : Nat) (vl : List Value) (yl zl : Nat) (h0 : ¬ mayC (B x).length l = 0) (s : St) (Hl : Sl Ed.cells 3 s.t s.next al l Nl ol vl yl zl)  : EndsPure R1.T 29 [.string x,.slice al l.length cl] s (fun v _ _ => v = .tuple ⟨[.string ByteArray.empty,errV (mayC (B x).length l)]⟩) := by
  refine EndsPure.of (rs := [4,5]) (fr0 := ⟨[.string x,.slice al l.length cl,undef,undef,undef,undef,undef,undef,undef,undef,undef,undef,undef,undef,undef,undef,undef,undef,undef,undef,undef,undef,undef,undef,undef,undef,undef,undef,undef,undef,undef,undef,undef,undef,undef,undef,undef,undef,undef,undef],[]⟩) (by kernel_rfl : R1.T.fn 29 = some ⟨40,(Try.f29.body).getD .skip,[.tmp 4,.tmp 5]⟩) rfl ?_
  have hO0 := Own.refl s
  have Ml := Hl.small
  simp only [Try.f29,Option.getD]
  refine Ends.seq ?_
  refine Ends.region ?_
  refine W.op (v := .string ByteArray.empty) (fr1 := ⟨[_,_,_,_,.string ByteArray.empty,_,_,_,_,_,_,_,_,_,_,_,_,_,_,_,_,_,_,_,_,_,_,_,_,_,_,_,_,_,_,_,_,_,_,_],[]⟩) rfl rfl rfl rfl ?_
  refine W.op (v := .nilIface) (fr1 := ⟨[_,_,_,_,_,.nilIface,_,_,_,_,_,_,_,_,_,_,_,_,_,_,_,_,_,_,_,_,_,_,_,_,_,_,_,_,_,_,_,_,_,_],[]⟩) rfl rfl rfl rfl ?_
  refine EndsOps.nil ?_
  refine Ends.seq ?_
  refine Ends.seq ?_
  refine Ends.region ?_
  refine W.op (v := .string x) (fr1 := ⟨[_,_,_,_,_,_,_,_,_,_,_,.string x,_,_,_,_,_,_,_,_,_,_,_,_,_,_,_,_,_,_,_,_,_,_,_,_,_,_,_,_],[]⟩) rfl rfl rfl rfl ?_
  refine W.op (v := .slice al l.length cl) (fr1 := ⟨[_,_,_,_,_,_,_,_,_,_,_,_,.slice al l.length cl,_,_,_,_,_,_,_,_,_,_,_,_,_,_,_,_,_,_,_,_,_,_,_,_,_,_,_],[]⟩) rfl rfl rfl rfl ?_
  refine W.call (ar := [.string x,.slice al l.length cl]) (X := errV (mayC (B x).length l)) (fr1 := ⟨[_,_,_,_,_,_,_,_,_,_,_,_,_,errV (mayC (B x).length l),_,_,_,_,_,_,_,_,_,_,_,_,_,_,_,_,_,_,_,_,_,_,_,_,_,_],[]⟩) hO0 rfl rfl rfl rfl (c69 x hx _ _ _ _ _ _ _ _ _ (Hl.own hO0)) rfl ?_
  intro s1 hO2 hS3
  refine W.op (v := errV (mayC (B x).length l)) (fr1 := ⟨[_,_,_,_,_,_,errV (mayC (B x).length l),_,_,_,_,_,_,_,_,_,_,_,_,_,_,_,_,_,_,_,_,_,_,_,_,_,_,_,_,_,_,_,_,_],[]⟩) rfl rfl rfl rfl ?_
  refine EndsOps.nil ?_
  refine Ends.seq ?_
  refine Ends.region ?_
  refine W.op (v := errV (mayC (B x).length l)) (fr1 := ⟨[_,_,_,_,_,_,_,_,_,_,_,_,_,_,errV (mayC (B x).length l),_,_,_,_,_,_,_,_,_,_,_,_,_,_,_,_,_,_,_,_,_,_,_,_,_],[]⟩) rfl rfl rfl rfl ?_
  refine W.op (v := .bool true) (fr1 := ⟨[_,_,_,_,_,_,_,_,_,_,_,_,_,_,_,.bool true,_,_,_,_,_,_,_,_,_,_,_,_,_,_,_,_,_,_,_,_,_,_,_,_],[]⟩) rfl (p_bin (errneqF h0)) rfl rfl ?_
  refine EndsOps.nil ?_
  refine Ends.condT rfl ?_
  refine Ends.seq ?_
  refine Ends.region ?_
  refine W.op (v := errV (mayC (B x).length l)) (fr1 := ⟨[_,_,_,_,_,_,_,_,_,_,_,_,_,_,_,_,errV (mayC (B x).length l),_,_,_,_,_,_,_,_,_,_,_,_,_,_,_,_,_,_,_,_,_,_,_],[]⟩) rfl rfl rfl rfl ?_
  refine W.op (v := .string ByteArray.empty) (fr1 := ⟨[_,_,_,_,.string ByteArray.empty,_,_,_,_,_,_,_,_,_,_,_,_,_,_,_,_,_,_,_,_,_,_,_,_,_,_,_,_,_,_,_,_,_,_,_],[]⟩) rfl rfl rfl rfl ?_
  refine W.op (v := errV (mayC (B x).length l)) (fr1 := ⟨[_,_,_,_,_,errV (mayC (B x).length l),_,_,_,_,_,_,_,_,_,_,_,_,_,_,_,_,_,_,_,_,_,_,_,_,_,_,_,_,_,_,_,_,_,_],[]⟩) rfl rfl rfl rfl ?_
  refine EndsOps.nil ?_
  refine Ends.ret ?_
  exact ⟨rfl,rfl,hO2,by
    show Value.tuple ⟨[.string ByteArray.empty,errV (mayC (B x).length l)]⟩ = Value.tuple ⟨[.string ByteArray.empty,errV (mayC (B x).length l)]⟩
    rfl⟩
end Go.Ev.R1

