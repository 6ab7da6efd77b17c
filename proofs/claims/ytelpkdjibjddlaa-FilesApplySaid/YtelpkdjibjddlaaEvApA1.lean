/-
  EV: contracts of the first seat's functions.
-/
import Derived.Test.YtelpkdjibjddlaaEvBuC
import Derived.Test.YtelpkdjibjddlaaEvApply
namespace Go.Ev.R1
open Go Go.Ev Go.Proofs
set_option maxRecDepth 10000
theorem errneqT {z : Int} (h : z = 0) : binop R1.T .neq 26 true (errV z) .nilIface = some (.bool false) := by subst h; rfl
theorem errneqF {z : Int} {c : Bool} (h : ¬ z = 0) : binop R1.T .neq 26 c (errV z) .nilIface = some (.bool true) := by unfold errV; rw [if_neg h]; rfl
theorem c69 (x : ByteArray) (hx : (B x).length ≤ 140737488351232) (al : Option Addr) (l : List Ed) (cl Nl ol : Nat) (vl : List Value) (yl zl : Nat) (s : St) (Hl : Sl Ed.cells 3 s.t s.next al l Nl ol vl yl zl)  : EndsPure R1.T 69 [.string x,.slice al l.length cl] s (fun v _ _ => v = errV (mayC (B x).length l)) := by
  refine EndsPure.of (rs := [4]) (fr0 := ⟨[.string x,.slice al l.length cl,undef,undef,undef,undef,undef,undef,undef,undef,undef,undef,undef,undef,undef,undef,undef,undef,undef,undef],[]⟩) (by kernel_rfl : R1.T.fn 69 = some ⟨20,(Try.f69.body).getD .skip,[.tmp 4]⟩) rfl ?_
  have hO0 := Own.refl s
  have Ml := Hl.small
  simp only [Try.f69,Option.getD]
  refine Ends.seq ?_
  refine Ends.region ?_
  refine W.op (v := .nilIface) (fr1 := ⟨[_,_,_,_,.nilIface,_,_,_,_,_,_,_,_,_,_,_,_,_,_,_],[]⟩) rfl rfl rfl rfl ?_
  refine EndsOps.nil ?_
  refine Ends.seq ?_
  refine W.block ?_
  refine Ends.seq ?_
  refine Ends.region ?_
  refine W.op (v := .slice al l.length cl) (fr1 := ⟨[_,_,_,_,_,_,.slice al l.length cl,_,_,_,_,_,_,_,_,_,_,_,_,_],[]⟩) rfl rfl rfl rfl ?_
  refine W.op (v := .string x) (fr1 := ⟨[_,_,_,_,_,_,_,.string x,_,_,_,_,_,_,_,_,_,_,_,_],[]⟩) rfl rfl rfl rfl ?_
  refine W.op (v := .int .i64 (((B x).length : Nat) : Int)) (fr1 := ⟨[_,_,_,_,_,_,_,_,.int .i64 (((B x).length : Nat) : Int),_,_,_,_,_,_,_,_,_,_,_],[]⟩) rfl rfl rfl rfl ?_
  by_cases h1 : Right l (((B x).length : Nat) : Int)
  · skip
    refine W.call (ar := [.slice al l.length cl,.int .i64 (((B x).length : Nat) : Int)]) (X := .bool true) (fr1 := ⟨[_,_,_,_,_,_,_,_,_,.bool true,_,_,_,_,_,_,_,_,_,_],[]⟩) hO0 rfl rfl rfl rfl ((c35 _ _ _ _ _ _ _ _ (((B x).length : Nat) : Int) _ (Hl.own hO0)).mono fun v _ _ h => h.trans (congrArg Value.bool (decide_eq_true h1))) rfl ?_
    intro s2 hO3 hS4
    refine W.op (v := .bool false) (fr1 := ⟨[_,_,_,_,_,_,_,_,_,_,.bool false,_,_,_,_,_,_,_,_,_],[]⟩) rfl rfl rfl rfl ?_
    refine W.op (v := .bool false) (fr1 := ⟨[_,_,_,_,_,.bool false,_,_,_,_,_,_,_,_,_,_,_,_,_,_],[]⟩) rfl rfl rfl rfl ?_
    refine EndsOps.nil ?_
    refine Ends.condF rfl ?_
    refine Ends.seq ?_
    refine Ends.region ?_
    refine W.op (v := .string x) (fr1 := ⟨[_,_,_,_,_,_,_,_,_,_,_,_,_,.string x,_,_,_,_,_,_],[]⟩) rfl rfl rfl rfl ?_
    refine W.op (v := .int .i64 (((B x).length : Nat) : Int)) (fr1 := ⟨[_,_,_,_,_,_,_,_,_,_,_,_,_,_,.int .i64 (((B x).length : Nat) : Int),_,_,_,_,_],[]⟩) rfl rfl rfl rfl ?_
    refine W.op (v := .slice al l.length cl) (fr1 := ⟨[_,_,_,_,_,_,_,_,_,_,_,_,_,_,_,.slice al l.length cl,_,_,_,_],[]⟩) rfl rfl rfl rfl ?_
    refine W.call (ar := [.slice al l.length cl]) (X := .int .i64 (W (growS l))) (fr1 := ⟨[_,_,_,_,_,_,_,_,_,_,_,_,_,_,_,_,.int .i64 (W (growS l)),_,_,_],[]⟩) hO3 rfl rfl rfl rfl (c72 _ _ _ _ _ _ _ _ _ (Hl.own hO3)) rfl ?_
    intro s5 hO6 hS7
    refine W.op (v := .int .i64 (W ((((B x).length : Nat) : Int) + W (growS l)))) (fr1 := ⟨[_,_,_,_,_,_,_,_,_,_,_,_,_,_,_,_,_,.int .i64 (W ((((B x).length : Nat) : Int) + W (growS l))),_,_],[]⟩) rfl (p_bin addW) rfl rfl ?_
    by_cases h8 : (65536 : Int) < W ((((B x).length : Nat) : Int) + W (growS l))
    · skip
      refine W.op (v := .bool true) (fr1 := ⟨[_,_,_,_,_,_,_,_,_,_,_,_,_,_,_,_,_,_,.bool true,_],[]⟩) rfl (p_bin (gtT h8)) rfl rfl ?_
      refine W.op (v := .bool true) (fr1 := ⟨[_,_,_,_,_,_,_,_,_,_,_,_,.bool true,_,_,_,_,_,_,_],[]⟩) rfl rfl rfl rfl ?_
      refine EndsOps.nil ?_
      refine Ends.condT rfl ?_
      refine Ends.seq ?_
      refine Ends.region ?_
      refine W.op (v := .iface 37 (.int .i64 4)) (fr1 := ⟨[_,_,_,_,_,_,_,_,_,_,_,_,_,_,_,_,_,_,_,.iface 37 (.int .i64 4)],[]⟩) rfl rfl rfl rfl ?_
      refine W.op (v := .iface 37 (.int .i64 4)) (fr1 := ⟨[_,_,_,_,.iface 37 (.int .i64 4),_,_,_,_,_,_,_,_,_,_,_,_,_,_,_],[]⟩) rfl rfl rfl rfl ?_
      refine EndsOps.nil ?_
      refine Ends.ret ?_
      exact ⟨rfl,rfl,hO6,by
        show Value.iface 37 (.int .i64 4) = errV (mayC (B x).length l)
        rw [may4 h1 h8]; rfl⟩
    · skip
      refine W.op (v := .bool false) (fr1 := ⟨[_,_,_,_,_,_,_,_,_,_,_,_,_,_,_,_,_,_,.bool false,_],[]⟩) rfl (p_bin (gtF h8)) rfl rfl ?_
      refine W.op (v := .bool false) (fr1 := ⟨[_,_,_,_,_,_,_,_,_,_,_,_,.bool false,_,_,_,_,_,_,_],[]⟩) rfl rfl rfl rfl ?_
      refine EndsOps.nil ?_
      refine Ends.condF rfl ?_
      refine Ends.skip ?_
      refine Ends.seq ?_
      refine Ends.region ?_
      refine W.op (v := .nilIface) (fr1 := ⟨[_,_,_,_,.nilIface,_,_,_,_,_,_,_,_,_,_,_,_,_,_,_],[]⟩) rfl rfl rfl rfl ?_
      refine EndsOps.nil ?_
      refine Ends.ret ?_
      exact ⟨rfl,rfl,hO6,by
        show Value.nilIface = errV (mayC (B x).length l)
        rw [mayOk h1 h8]; rfl⟩
  · skip
    refine W.call (ar := [.slice al l.length cl,.int .i64 (((B x).length : Nat) : Int)]) (X := .bool false) (fr1 := ⟨[_,_,_,_,_,_,_,_,_,.bool false,_,_,_,_,_,_,_,_,_,_],[]⟩) hO0 rfl rfl rfl rfl ((c35 _ _ _ _ _ _ _ _ (((B x).length : Nat) : Int) _ (Hl.own hO0)).mono fun v _ _ h => h.trans (congrArg Value.bool (decide_eq_false h1))) rfl ?_
    intro s9 hO10 hS11
    refine W.op (v := .bool true) (fr1 := ⟨[_,_,_,_,_,_,_,_,_,_,.bool true,_,_,_,_,_,_,_,_,_],[]⟩) rfl rfl rfl rfl ?_
    refine W.op (v := .bool true) (fr1 := ⟨[_,_,_,_,_,.bool true,_,_,_,_,_,_,_,_,_,_,_,_,_,_],[]⟩) rfl rfl rfl rfl ?_
    refine EndsOps.nil ?_
    refine Ends.condT rfl ?_
    refine Ends.seq ?_
    refine Ends.region ?_
    refine W.op (v := .iface 37 (.int .i64 2)) (fr1 := ⟨[_,_,_,_,_,_,_,_,_,_,_,.iface 37 (.int .i64 2),_,_,_,_,_,_,_,_],[]⟩) rfl rfl rfl rfl ?_
    refine W.op (v := .iface 37 (.int .i64 2)) (fr1 := ⟨[_,_,_,_,.iface 37 (.int .i64 2),_,_,_,_,_,_,_,_,_,_,_,_,_,_,_],[]⟩) rfl rfl rfl rfl ?_
    refine EndsOps.nil ?_
    refine Ends.ret ?_
    exact ⟨rfl,rfl,hO10,by
      show Value.iface 37 (.int .i64 2) = errV (mayC (B x).length l)
      rw [may2 h1]; rfl⟩
theorem c29T (x : ByteArray) (hx : (B x).length ≤ 140737488351232) (al : Option Addr) (l : List Ed) (cl Nl ol : Nat) (vl : List Value) (yl zl : Nat) (hS : (B x).length + sumT l ≤ 1000000) (h0 : mayC (B x).length l = 0) (s : St) (Hl : Sl Ed.cells 3 s.t s.next al l Nl ol vl yl zl)  : EndsPure R1.T 29 [.string x,.slice al l.length cl] s (fun v _ _ => v = .tuple ⟨[.string (apS x l),.nilIface]⟩) := by
  refine EndsPure.of (rs := [4,5]) (fr0 := ⟨[.string x,.slice al l.length cl,undef,undef,undef,undef,undef,undef,undef,undef,undef,undef,undef,undef,undef,undef,undef,undef,undef,undef,undef,undef,undef,undef,undef,undef,undef,undef,undef,undef,undef,undef,undef,undef,undef,undef,undef,undef,undef,undef],[]⟩) (by kernel_rfl : R1.T.fn 29 = some ⟨40,(Try.f29.body).getD .skip,[.tmp 4,.tmp 5]⟩) rfl ?_
  have hO0 := Own.refl s
  have Ml := Hl.small
  have hR := (may0 h0).1
  simp only [Try.f29,Option.getD]
  refine Ends.seq ?_
  refine Ends.region ?_
  refine W.op (v := .string ByteArray.empty) (fr1 := ⟨[_,_,_,_,.string ByteArray.empty,_,_,_,_,_,_,_,_,_,_,_,_,_,_,_,_,_,_,_,_,_,_,_,_,_,_,_,_,_,_,_,_,_,_,_],[]⟩) rfl rfl rfl rfl ?_
  refine W.op (v := .nilIface) (fr1 := ⟨[_,_,_,_,_,.nilIface,_,_,_,_,_,_,_,_,_,_,_,_,_,_,_,_,_,_,_,_,_,_,_,_,_,_,_,_,_,_,_,_,_,_],[]⟩) rfl rfl rfl rfl ?_
  refine EndsOps.nil ?_
  refine Ends.seq ?_
  refine Ends.seq ?_
  refine Ends.region ?_
  refine W.op (v := .string x) (fr1 := ⟨[_,_,_,_,_,_,_,_,_,_,_,.string x,_,_,_,_,_,_,_,_,_,_,_,_,_,_,_,_,_,_,_,_,_,_,_,_,_,_,_,_],[]⟩) rfl rfl rfl rfl ?_
  refine W.op (v := .slice al l.length cl) (fr1 := ⟨[_,_,_,_,_,_,_,_,_,_,_,_,.slice al l.length cl,_,_,_,_,_,_,_,_,_,_,_,_,_,_,_,_,_,_,_,_,_,_,_,_,_,_,_],[]⟩) rfl rfl rfl rfl ?_
  refine W.call (ar := [.string x,.slice al l.length cl]) (X := errV (mayC (B x).length l)) (fr1 := ⟨[_,_,_,_,_,_,_,_,_,_,_,_,_,errV (mayC (B x).length l),_,_,_,_,_,_,_,_,_,_,_,_,_,_,_,_,_,_,_,_,_,_,_,_,_,_],[]⟩) hO0 rfl rfl rfl rfl (c69 x hx _ _ _ _ _ _ _ _ _ (Hl.own hO0)) rfl ?_
  intro s1 hO2 hS3
  refine W.op (v := errV (mayC (B x).length l)) (fr1 := ⟨[_,_,_,_,_,_,errV (mayC (B x).length l),_,_,_,_,_,_,_,_,_,_,_,_,_,_,_,_,_,_,_,_,_,_,_,_,_,_,_,_,_,_,_,_,_],[]⟩) rfl rfl rfl rfl ?_
  refine EndsOps.nil ?_
  refine Ends.seq ?_
  refine Ends.region ?_
  refine W.op (v := errV (mayC (B x).length l)) (fr1 := ⟨[_,_,_,_,_,_,_,_,_,_,_,_,_,_,errV (mayC (B x).length l),_,_,_,_,_,_,_,_,_,_,_,_,_,_,_,_,_,_,_,_,_,_,_,_,_],[]⟩) rfl rfl rfl rfl ?_
  refine W.op (v := .bool false) (fr1 := ⟨[_,_,_,_,_,_,_,_,_,_,_,_,_,_,_,.bool false,_,_,_,_,_,_,_,_,_,_,_,_,_,_,_,_,_,_,_,_,_,_,_,_],[]⟩) rfl (p_bin (errneqT h0)) rfl rfl ?_
  refine EndsOps.nil ?_
  refine Ends.condF rfl ?_
  refine Ends.skip ?_
  refine Ends.seq ?_
  refine Ends.region ?_
  obtain ⟨N4,hN5⟩ : ∃ N,N = s1.next := ⟨_,rfl⟩
  refine W.new (N := N4) (vs := [.pointer none,.slice none 0 0]) (fr1 := ⟨[_,_,_,_,_,_,_,.pointer (some ⟨N4,0,none⟩),_,_,_,_,_,_,_,_,_,_,_,_,_,_,_,_,_,_,_,_,_,_,_,_,_,_,_,_,_,_,_,_],[]⟩) hO2 hN5 rfl (p_alloc zero112 rfl) rfl rfl ?_
  intro s6 hO7 hS8 r9 hB10
  have hbd11 : Bd 112 5 s.next s6.t s6.next N4 [] := ⟨hB10,_,_,r9,.inl rfl,OL.nil,fun _ => rfl⟩
  refine EndsOps.nil ?_
  refine Ends.seq ?_
  refine Ends.region ?_
  refine W.op (v := .int .i64 0) (fr1 := ⟨[_,_,_,_,_,_,_,_,.int .i64 0,_,_,_,_,_,_,_,_,_,_,_,_,_,_,_,_,_,_,_,_,_,_,_,_,_,_,_,_,_,_,_],[]⟩) rfl rfl rfl rfl ?_
  refine EndsOps.nil ?_
  refine Ends.seq ?_
  refine Ends.seq ?_
  refine Ends.region ?_
  refine W.op (v := .slice al l.length cl) (fr1 := ⟨[_,_,_,_,_,_,_,_,_,_,_,_,_,_,_,_,_,.slice al l.length cl,_,_,_,_,_,_,_,_,_,_,_,_,_,_,_,_,_,_,_,_,_,_],[]⟩) rfl rfl rfl rfl ?_
  refine W.op (v := .int .i64 ((l.length : Nat) : Int)) (fr1 := ⟨[_,_,_,_,_,_,_,_,_,_,_,_,_,_,_,_,_,_,.int .i64 ((l.length : Nat) : Int),_,_,_,_,_,_,_,_,_,_,_,_,_,_,_,_,_,_,_,_,_],[]⟩) rfl rfl rfl rfl ?_
  refine W.op (v := .int .i64 0) (fr1 := ⟨[_,_,_,_,_,_,_,_,_,_,_,_,_,_,_,_,_,_,_,.int .i64 0,_,_,_,_,_,_,_,_,_,_,_,_,_,_,_,_,_,_,_,_],[]⟩) rfl rfl rfl rfl ?_
  refine EndsOps.nil ?_
  refine W.block ?_
  refine Ends.loopInv (fun d fr s1 => ∃ (i : Nat) (q : Int) (j10 j20 j21 j22 j23 j24 j25 j26 j27 j28 j29 j30 j31 j32 j33 j34 : Value),fr = ⟨[.string x,.slice al l.length cl,undef,undef,.string ByteArray.empty,.nilIface,errV (mayC (B x).length l),.pointer (some ⟨N4,0,none⟩),.int .i64 q,undef,j10,.string x,.slice al l.length cl,errV (mayC (B x).length l),errV (mayC (B x).length l),.bool false,undef,.slice al l.length cl,.int .i64 ((l.length : Nat) : Int),.int .i64 ((i : Nat) : Int),j20,j21,j22,j23,j24,j25,j26,j27,j28,j29,j30,j31,j32,j33,j34,undef,undef,undef,undef,undef],[]⟩ ∧ Own s s1 ∧ d = l.length - i ∧ (i ≤ l.length) ∧ (q = (apF x (l.take i)).2) ∧ (0 ≤ q) ∧ (q ≤ (((B x).length : Nat) : Int)) ∧ (∀ e,l[i]? = some e → q ≤ e.lo) ∧ (((apF x (l.take i)).1.length : Int) ≤ q + sumT (l.take i)) ∧ (Bd 112 5 s.next s1.t s1.next N4 (apF x (l.take i)).1)) ?_ _ _ _ ⟨0,0,_,_,_,_,_,_,_,_,_,_,_,_,_,_,_,_,rfl,hO7,rfl,Nat.zero_le _,rfl,Int.le_refl _,by omega,(fun e he => (hR.2 0 (by have := (List.getElem?_eq_some_iff.1 he).1; omega) e he).1.1),by simp [apF],hbd11⟩
  rintro d _ s12 ⟨i,q,j10,j20,j21,j22,j23,j24,j25,j26,j27,j28,j29,j30,j31,j32,j33,j34,rfl,hO13,hd14,hi,hq,hq0,hqn,hlt,hxl,hbd⟩
  refine Ends.seq ?_
  refine Ends.region ?_
  by_cases h15 : ((i : Nat) : Int) < ((l.length : Nat) : Int)
  · skip
    refine W.op (v := .bool true) (fr1 := ⟨[_,_,_,_,_,_,_,_,_,_,_,_,_,_,_,_,_,_,_,_,.bool true,_,_,_,_,_,_,_,_,_,_,_,_,_,_,_,_,_,_,_],[]⟩) rfl (p_bin (ltT h15)) rfl rfl ?_
    refine EndsOps.nil ?_
    refine Ends.seq ?_
    refine Ends.condT rfl ?_
    refine Ends.skip ?_
    refine Ends.seq ?_
    refine W.block ?_
    refine Ends.seq ?_
    refine Ends.region ?_
    obtain ⟨e16,he17⟩ := ex_at (l := l) (i := i) (by omega)
    refine W.op (v := .pointer (some ⟨Nl,ol + i * 3,none⟩)) (fr1 := ⟨[_,_,_,_,_,_,_,_,_,_,_,_,_,_,_,_,_,_,_,_,_,.pointer (some ⟨Nl,ol + i * 3,none⟩),_,_,_,_,_,_,_,_,_,_,_,_,_,_,_,_,_,_],[]⟩) rfl (p_ix (Sl.ix Hl rfl rfl he17 _)) rfl rfl ?_
    refine W.op (v := .agg ⟨[.int .i64 e16.lo,.int .i64 e16.hi,.string e16.tx]⟩) (fr1 := ⟨[_,_,_,_,_,_,_,_,_,_,_,_,_,_,_,_,_,_,_,_,_,_,.agg ⟨[.int .i64 e16.lo,.int .i64 e16.hi,.string e16.tx]⟩,_,_,_,_,_,_,_,_,_,_,_,_,_,_,_,_,_],[]⟩) rfl (p_loadA (Sl.row' (Hl.own hO13) he17) rfl rfl rfl rfl ((Hl.own hO13).get _ _ he17)) rfl rfl ?_
    obtain ⟨N18,hN19⟩ : ∃ N,N = s12.next := ⟨_,rfl⟩
    have hb20 : s12.next ≤ N18 := hN19 ▸ (Own.refl s12).next
    refine W.new (N := N18) (vs := [.int .i64 0,.int .i64 0,.string ByteArray.empty]) (fr1 := ⟨[_,_,_,_,_,_,_,_,_,_,.pointer (some ⟨N18,0,none⟩),_,_,_,_,_,_,_,_,_,_,_,_,_,_,_,_,_,_,_,_,_,_,_,_,_,_,_,_,_],[]⟩) hO13 hN19 rfl (p_alloc zero97 rfl) rfl rfl ?_
    intro s21 hO22 hS23 r24 hB25
    have hE26 := (Own.refl s12).trans hS23
    refine W.store2 (cs := [.int .i64 e16.lo,.int .i64 e16.hi,.string e16.tx]) (vs' := [.int .i64 e16.lo,.int .i64 e16.hi,.string e16.tx]) (fr1 := ⟨[_,_,_,_,_,_,_,_,_,_,_,_,_,_,_,_,_,_,_,_,_,_,_,_,_,_,_,_,_,_,_,_,_,_,_,_,_,_,_,_],[]⟩) hO22 r24 hB25 rfl rfl rfl rfl (by kernel_rfl) (by simp) (by simp [END,oneCell]) rfl rfl ?_
    intro s27 hO28 hn29 hu30 r31 hX32
    have hE33 := hX32 s12 hE26 hb20
    refine EndsOps.nil ?_
    refine Ends.seq ?_
    refine Ends.region ?_
    refine W.op (v := .string x) (fr1 := ⟨[_,_,_,_,_,_,_,_,_,_,_,_,_,_,_,_,_,_,_,_,_,_,_,.string x,_,_,_,_,_,_,_,_,_,_,_,_,_,_,_,_],[]⟩) rfl rfl rfl rfl ?_
    refine W.op (v := .int .i64 q) (fr1 := ⟨[_,_,_,_,_,_,_,_,_,_,_,_,_,_,_,_,_,_,_,_,_,_,_,_,.int .i64 q,_,_,_,_,_,_,_,_,_,_,_,_,_,_,_],[]⟩) rfl rfl rfl rfl ?_
    refine W.op (v := .pointer (some ⟨N18,0,none⟩)) (fr1 := ⟨[_,_,_,_,_,_,_,_,_,_,_,_,_,_,_,_,_,_,_,_,_,_,_,_,_,.pointer (some ⟨N18,0,none⟩),_,_,_,_,_,_,_,_,_,_,_,_,_,_],[]⟩) rfl rfl rfl rfl ?_
    refine W.op (v := .int .i64 e16.lo) (fr1 := ⟨[_,_,_,_,_,_,_,_,_,_,_,_,_,_,_,_,_,_,_,_,_,_,_,_,_,_,.int .i64 e16.lo,_,_,_,_,_,_,_,_,_,_,_,_,_],[]⟩) rfl (p_load1 r31 rfl rfl rfl rfl) rfl rfl ?_
    have hW := (hR.2 i (by omega) _ he17).1
    have hq1 := hlt _ he17
    refine W.op (v := .string (sub x q.toNat e16.lo.toNat)) (fr1 := ⟨[_,_,_,_,_,_,_,_,_,_,_,_,_,_,_,_,_,_,_,_,_,_,_,_,_,_,_,.string (sub x q.toNat e16.lo.toNat),_,_,_,_,_,_,_,_,_,_,_,_],[]⟩) rfl (p_sub rfl rfl rfl rfl (by omega) (by omega) (by omega)) rfl rfl ?_
    have gs := sumT_step he17
    have gS := sumT_le l (i + 1)
    have g1 : (B (sub x q.toNat e16.lo.toNat)).length = e16.lo.toNat - q.toNat := sub_len (by omega) (by omega)
    refine W.callOn (ar := [.pointer (some ⟨N4,0,none⟩),.string (sub x q.toNat e16.lo.toNat)]) (fF := fun v34 => ⟨[_,_,_,_,_,_,_,_,_,_,_,_,_,_,_,_,_,_,_,_,_,_,_,_,_,_,_,_,v34,_,_,_,_,_,_,_,_,_,_,_],[]⟩) rfl rfl rfl rfl (c70 N4 ((apF x (l.take i)).1) (sub x q.toNat e16.lo.toNat) (by omega) s _ hO28 (hbd.own hE33)) (fun _ => rfl) ?_
    intro v34 s35 hR38 hO36 hn37
    obtain ⟨rfl,hbd39,hF40⟩ := hR38
    have r41 := hF40 _ _ _ _ r31 (by decide)
    refine EndsOps.nil ?_
    refine Ends.seq ?_
    refine Ends.region ?_
    refine W.op (v := .pointer (some ⟨N18,2,none⟩)) (fr1 := ⟨[_,_,_,_,_,_,_,_,_,_,_,_,_,_,_,_,_,_,_,_,_,_,_,_,_,_,_,_,_,.pointer (some ⟨N18,2,none⟩),_,_,_,_,_,_,_,_,_,_],[]⟩) rfl rfl rfl rfl ?_
    refine W.op (v := .string e16.tx) (fr1 := ⟨[_,_,_,_,_,_,_,_,_,_,_,_,_,_,_,_,_,_,_,_,_,_,_,_,_,_,_,_,_,_,.string e16.tx,_,_,_,_,_,_,_,_,_],[]⟩) rfl (p_load1 r41 rfl rfl rfl rfl) rfl rfl ?_
    have g2 : (((apF x (l.take i)).1 ++ B (sub x q.toNat e16.lo.toNat))).length = _ := List.length_append
    refine W.callOn (ar := [.pointer (some ⟨N4,0,none⟩),.string e16.tx]) (fF := fun v42 => ⟨[_,_,_,_,_,_,_,_,_,_,_,_,_,_,_,_,_,_,_,_,_,_,_,_,_,_,_,_,_,_,_,v42,_,_,_,_,_,_,_,_],[]⟩) rfl rfl rfl rfl (c70 N4 ((apF x (l.take i)).1 ++ B (sub x q.toNat e16.lo.toNat)) e16.tx (by omega) s _ hO36 hbd39) (fun _ => rfl) ?_
    intro v42 s43 hR46 hO44 hn45
    obtain ⟨rfl,hbd47,hF48⟩ := hR46
    have r49 := hF48 _ _ _ _ r41 (by decide)
    refine EndsOps.nil ?_
    refine Ends.region ?_
    refine W.op (v := .pointer (some ⟨N18,1,none⟩)) (fr1 := ⟨[_,_,_,_,_,_,_,_,_,_,_,_,_,_,_,_,_,_,_,_,_,_,_,_,_,_,_,_,_,_,_,_,.pointer (some ⟨N18,1,none⟩),_,_,_,_,_,_,_],[]⟩) rfl rfl rfl rfl ?_
    refine W.op (v := .int .i64 e16.hi) (fr1 := ⟨[_,_,_,_,_,_,_,_,_,_,_,_,_,_,_,_,_,_,_,_,_,_,_,_,_,_,_,_,_,_,_,_,_,.int .i64 e16.hi,_,_,_,_,_,_],[]⟩) rfl (p_load1 r49 rfl rfl rfl rfl) rfl rfl ?_
    refine W.op (v := .int .i64 e16.hi) (fr1 := ⟨[_,_,_,_,_,_,_,_,.int .i64 e16.hi,_,_,_,_,_,_,_,_,_,_,_,_,_,_,_,_,_,_,_,_,_,_,_,_,_,_,_,_,_,_,_],[]⟩) rfl rfl rfl rfl ?_
    refine EndsOps.nil ?_
    refine Ends.region ?_
    refine W.op (v := .int .i64 ((i + 1 : Nat) : Int)) (fr1 := ⟨[_,_,_,_,_,_,_,_,_,_,_,_,_,_,_,_,_,_,_,_,_,_,_,_,_,_,_,_,_,_,_,_,_,_,.int .i64 ((i + 1 : Nat) : Int),_,_,_,_,_],[]⟩) rfl (p_bin (addI (by omega) (by omega) (by omega))) rfl rfl ?_
    refine W.op (v := .int .i64 ((i + 1 : Nat) : Int)) (fr1 := ⟨[_,_,_,_,_,_,_,_,_,_,_,_,_,_,_,_,_,_,_,.int .i64 ((i + 1 : Nat) : Int),_,_,_,_,_,_,_,_,_,_,_,_,_,_,_,_,_,_,_,_],[]⟩) rfl rfl rfl rfl ?_
    refine EndsOps.nil ?_
    exact ⟨_,(by omega),i + 1,e16.hi,_,_,_,_,_,_,_,_,_,_,_,_,_,_,_,_,rfl,hO44,rfl,by omega,by rw [apF_step he17]; rfl,by omega,by omega,fun e' he' => (hR.at he' he17 rfl).1,by rw [apF_step he17]; simp only [apStep,List.length_append]; rw [← hq]; omega,(by rw [apF_step he17]; simp only [apStep]; rw [← hq]; exact hbd47)⟩
  · skip
    refine W.op (v := .bool false) (fr1 := ⟨[_,_,_,_,_,_,_,_,_,_,_,_,_,_,_,_,_,_,_,_,.bool false,_,_,_,_,_,_,_,_,_,_,_,_,_,_,_,_,_,_,_],[]⟩) rfl (p_bin (ltF h15)) rfl rfl ?_
    refine EndsOps.nil ?_
    refine Ends.seq ?_
    refine Ends.condF rfl ?_
    refine Ends.exit ?_
    refine W.outT rfl ?_
    refine Ends.seq ?_
    refine Ends.region ?_
    refine W.op (v := .string x) (fr1 := ⟨[_,_,_,_,_,_,_,_,_,_,_,_,_,_,_,_,_,_,_,_,_,_,_,_,_,_,_,_,_,_,_,_,_,_,_,.string x,_,_,_,_],[]⟩) rfl rfl rfl rfl ?_
    refine W.op (v := .int .i64 q) (fr1 := ⟨[_,_,_,_,_,_,_,_,_,_,_,_,_,_,_,_,_,_,_,_,_,_,_,_,_,_,_,_,_,_,_,_,_,_,_,_,.int .i64 q,_,_,_],[]⟩) rfl rfl rfl rfl ?_
    refine W.op (v := .string (sub x q.toNat (B x).length)) (fr1 := ⟨[_,_,_,_,_,_,_,_,_,_,_,_,_,_,_,_,_,_,_,_,_,_,_,_,_,_,_,_,_,_,_,_,_,_,_,_,_,.string (sub x q.toNat (B x).length),_,_],[]⟩) rfl (p_subFrom rfl rfl rfl (by omega) (by omega)) rfl rfl ?_
    have gS := sumT_le l i
    have g1 : (B (sub x q.toNat (B x).length)).length = (B x).length - q.toNat := sub_len (by omega) (by omega)
    refine W.callOn (ar := [.pointer (some ⟨N4,0,none⟩),.string (sub x q.toNat (B x).length)]) (fF := fun v50 => ⟨[_,_,_,_,_,_,_,_,_,_,_,_,_,_,_,_,_,_,_,_,_,_,_,_,_,_,_,_,_,_,_,_,_,_,_,_,_,_,v50,_],[]⟩) rfl rfl rfl rfl (c70 N4 ((apF x (l.take i)).1) (sub x q.toNat (B x).length) (by omega) s _ hO13 hbd) (fun _ => rfl) ?_
    intro v50 s51 hR54 hO52 hn53
    obtain ⟨rfl,hbd55,hF56⟩ := hR54
    refine EndsOps.nil ?_
    refine Ends.seq ?_
    refine Ends.region ?_
    refine W.callOn (ar := [.pointer (some ⟨N4,0,none⟩)]) (fF := fun v57 => ⟨[_,_,_,_,_,_,_,_,_,_,_,_,_,_,_,_,_,_,_,_,_,_,_,_,_,_,_,_,_,_,_,_,_,_,_,_,_,_,_,v57],[]⟩) rfl rfl rfl rfl (c71 N4 ((apF x (l.take i)).1 ++ B (sub x q.toNat (B x).length)) s _ hO52 hbd55) (fun _ => rfl) ?_
    intro v57 s58 hR61 hO59 hn60
    obtain ⟨rfl,hF62⟩ := hR61
    refine W.op (v := .string (⟨⟨((apF x (l.take i)).1 ++ B (sub x q.toNat (B x).length))⟩⟩)) (fr1 := ⟨[_,_,_,_,.string (⟨⟨((apF x (l.take i)).1 ++ B (sub x q.toNat (B x).length))⟩⟩),_,_,_,_,_,_,_,_,_,_,_,_,_,_,_,_,_,_,_,_,_,_,_,_,_,_,_,_,_,_,_,_,_,_,_],[]⟩) rfl rfl rfl rfl ?_
    refine W.op (v := .nilIface) (fr1 := ⟨[_,_,_,_,_,.nilIface,_,_,_,_,_,_,_,_,_,_,_,_,_,_,_,_,_,_,_,_,_,_,_,_,_,_,_,_,_,_,_,_,_,_],[]⟩) rfl rfl rfl rfl ?_
    refine EndsOps.nil ?_
    refine Ends.ret ?_
    exact ⟨rfl,rfl,hO59,by
      show Value.tuple ⟨[.string (⟨⟨((apF x (l.take i)).1 ++ B (sub x q.toNat (B x).length))⟩⟩),.nilIface]⟩ = Value.tuple ⟨[.string (apS x l),.nilIface]⟩
      rw [hq,show i = l.length by omega,List.take_length]; rfl⟩
theorem c29F (x : ByteArray) (hx : (B x).length ≤ 140737488351232) (al : Option Addr) (l : List Ed) (cl Nl ol : Nat) (vl : List Value) (yl zl : Nat) (h0 : ¬ mayC (B x).length l = 0) (s : St) (Hl : Sl Ed.cells 3 s.t s.next al l Nl ol vl yl zl)  : EndsPure R1.T 29 [.string x,.slice al l.length cl] s (fun v _ _ => v = .tuple ⟨[.string ByteArray.empty,errV (mayC (B x).length l)]⟩) := by
  refine EndsPure.of (rs := [4,5]) (fr0 := ⟨[.string x,.slice al l.length cl,undef,undef,undef,undef,undef,undef,undef,undef,undef,undef,undef,undef,undef,undef,undef,undef,undef,undef,undef,undef,undef,undef,undef,undef,undef,undef,undef,undef,undef,undef,undef,undef,undef,undef,undef,undef,undef,undef],[]⟩) (by kernel_rfl : R1.T.fn 29 = some ⟨40,(Try.f29.body).getD .skip,[.tmp 4,.tmp 5]⟩) rfl ?_
  have hO0 := Own.refl s
  have Ml := Hl.small
  simp only [Try.f29,Option.getD]
  refine Ends.seq ?_
  refine Ends.region ?_
  refine W.op (v := .string ByteArray.empty) (fr1 := ⟨[_,_,_,_,.string ByteArray.empty,_,_,_,_,_,_,_,_,_,_,_,_,_,_,_,_,_,_,_,_,_,_,_,_,_,_,_,_,_,_,_,_,_,_,_],[]⟩) rfl rfl rfl rfl ?_
  refine W.op (v := .nilIface) (fr1 := ⟨[_,_,_,_,_,.nilIface,_,_,_,_,_,_,_,_,_,_,_,_,_,_,_,_,_,_,_,_,_,_,_,_,_,_,_,_,_,_,_,_,_,_],[]⟩) rfl rfl rfl rfl ?_
  refine EndsOps.nil ?_
  refine Ends.seq ?_
  refine Ends.seq ?_
  refine Ends.region ?_
  refine W.op (v := .string x) (fr1 := ⟨[_,_,_,_,_,_,_,_,_,_,_,.string x,_,_,_,_,_,_,_,_,_,_,_,_,_,_,_,_,_,_,_,_,_,_,_,_,_,_,_,_],[]⟩) rfl rfl rfl rfl ?_
  refine W.op (v := .slice al l.length cl) (fr1 := ⟨[_,_,_,_,_,_,_,_,_,_,_,_,.slice al l.length cl,_,_,_,_,_,_,_,_,_,_,_,_,_,_,_,_,_,_,_,_,_,_,_,_,_,_,_],[]⟩) rfl rfl rfl rfl ?_
  refine W.call (ar := [.string x,.slice al l.length cl]) (X := errV (mayC (B x).length l)) (fr1 := ⟨[_,_,_,_,_,_,_,_,_,_,_,_,_,errV (mayC (B x).length l),_,_,_,_,_,_,_,_,_,_,_,_,_,_,_,_,_,_,_,_,_,_,_,_,_,_],[]⟩) hO0 rfl rfl rfl rfl (c69 x hx _ _ _ _ _ _ _ _ _ (Hl.own hO0)) rfl ?_
  intro s1 hO2 hS3
  refine W.op (v := errV (mayC (B x).length l)) (fr1 := ⟨[_,_,_,_,_,_,errV (mayC (B x).length l),_,_,_,_,_,_,_,_,_,_,_,_,_,_,_,_,_,_,_,_,_,_,_,_,_,_,_,_,_,_,_,_,_],[]⟩) rfl rfl rfl rfl ?_
  refine EndsOps.nil ?_
  refine Ends.seq ?_
  refine Ends.region ?_
  refine W.op (v := errV (mayC (B x).length l)) (fr1 := ⟨[_,_,_,_,_,_,_,_,_,_,_,_,_,_,errV (mayC (B x).length l),_,_,_,_,_,_,_,_,_,_,_,_,_,_,_,_,_,_,_,_,_,_,_,_,_],[]⟩) rfl rfl rfl rfl ?_
  refine W.op (v := .bool true) (fr1 := ⟨[_,_,_,_,_,_,_,_,_,_,_,_,_,_,_,.bool true,_,_,_,_,_,_,_,_,_,_,_,_,_,_,_,_,_,_,_,_,_,_,_,_],[]⟩) rfl (p_bin (errneqF h0)) rfl rfl ?_
  refine EndsOps.nil ?_
  refine Ends.condT rfl ?_
  refine Ends.seq ?_
  refine Ends.region ?_
  refine W.op (v := errV (mayC (B x).length l)) (fr1 := ⟨[_,_,_,_,_,_,_,_,_,_,_,_,_,_,_,_,errV (mayC (B x).length l),_,_,_,_,_,_,_,_,_,_,_,_,_,_,_,_,_,_,_,_,_,_,_],[]⟩) rfl rfl rfl rfl ?_
  refine W.op (v := .string ByteArray.empty) (fr1 := ⟨[_,_,_,_,.string ByteArray.empty,_,_,_,_,_,_,_,_,_,_,_,_,_,_,_,_,_,_,_,_,_,_,_,_,_,_,_,_,_,_,_,_,_,_,_],[]⟩) rfl rfl rfl rfl ?_
  refine W.op (v := errV (mayC (B x).length l)) (fr1 := ⟨[_,_,_,_,_,errV (mayC (B x).length l),_,_,_,_,_,_,_,_,_,_,_,_,_,_,_,_,_,_,_,_,_,_,_,_,_,_,_,_,_,_,_,_,_,_],[]⟩) rfl rfl rfl rfl ?_
  refine EndsOps.nil ?_
  refine Ends.ret ?_
  exact ⟨rfl,rfl,hO2,by
    show Value.tuple ⟨[.string ByteArray.empty,errV (mayC (B x).length l)]⟩ = Value.tuple ⟨[.string ByteArray.empty,errV (mayC (B x).length l)]⟩
    rfl⟩
theorem c30T (x : ByteArray) (hx : (B x).length ≤ 140737488351232) (al : Option Addr) (l : List Ed) (cl Nl ol : Nat) (vl : List Value) (yl zl : Nat) (hS : (B x).length + sumT l ≤ 1000000) (h0 : mayC (B x).length l = 0) (s : St) (Hl : Sl Ed.cells 3 s.t s.next al l Nl ol vl yl zl)  : EndsPure R1.T 30 [.string x,.slice al l.length cl] s (fun v _ _ => v = .tuple ⟨[.string (rapS x l),.int .i64 0]⟩) := by
  refine EndsPure.of (rs := [4,5]) (fr0 := ⟨[.string x,.slice al l.length cl,undef,undef,undef,undef,undef,undef,undef,undef,undef,undef,undef,undef,undef,undef,undef,undef,undef,undef,undef,undef,undef,undef,undef,undef,undef,undef,undef,undef,undef,undef,undef,undef,undef,undef,undef,undef,undef,undef,undef,undef,undef,undef,undef,undef,undef],[]⟩) (by kernel_rfl : R1.T.fn 30 = some ⟨47,(Try.f30.body).getD .skip,[.tmp 4,.tmp 5]⟩) rfl ?_
  have hO0 := Own.refl s
  have Ml := Hl.small
  have hR := (may0 h0).1
  simp only [Try.f30,Option.getD]
  refine Ends.seq ?_
  refine Ends.region ?_
  refine W.op (v := .string ByteArray.empty) (fr1 := ⟨[_,_,_,_,.string ByteArray.empty,_,_,_,_,_,_,_,_,_,_,_,_,_,_,_,_,_,_,_,_,_,_,_,_,_,_,_,_,_,_,_,_,_,_,_,_,_,_,_,_,_,_],[]⟩) rfl rfl rfl rfl ?_
  refine W.op (v := .int .i64 0) (fr1 := ⟨[_,_,_,_,_,.int .i64 0,_,_,_,_,_,_,_,_,_,_,_,_,_,_,_,_,_,_,_,_,_,_,_,_,_,_,_,_,_,_,_,_,_,_,_,_,_,_,_,_,_],[]⟩) rfl rfl rfl rfl ?_
  refine EndsOps.nil ?_
  refine Ends.seq ?_
  refine Ends.seq ?_
  refine Ends.region ?_
  refine W.op (v := .slice al l.length cl) (fr1 := ⟨[_,_,_,_,_,_,_,.slice al l.length cl,_,_,_,_,_,_,_,_,_,_,_,_,_,_,_,_,_,_,_,_,_,_,_,_,_,_,_,_,_,_,_,_,_,_,_,_,_,_,_],[]⟩) rfl rfl rfl rfl ?_
  refine W.op (v := .string x) (fr1 := ⟨[_,_,_,_,_,_,_,_,.string x,_,_,_,_,_,_,_,_,_,_,_,_,_,_,_,_,_,_,_,_,_,_,_,_,_,_,_,_,_,_,_,_,_,_,_,_,_,_],[]⟩) rfl rfl rfl rfl ?_
  refine W.op (v := .int .i64 (((B x).length : Nat) : Int)) (fr1 := ⟨[_,_,_,_,_,_,_,_,_,.int .i64 (((B x).length : Nat) : Int),_,_,_,_,_,_,_,_,_,_,_,_,_,_,_,_,_,_,_,_,_,_,_,_,_,_,_,_,_,_,_,_,_,_,_,_,_],[]⟩) rfl rfl rfl rfl ?_
  refine W.call (ar := [.slice al l.length cl,.int .i64 (((B x).length : Nat) : Int)]) (X := .bool true) (fr1 := ⟨[_,_,_,_,_,_,_,_,_,_,.bool true,_,_,_,_,_,_,_,_,_,_,_,_,_,_,_,_,_,_,_,_,_,_,_,_,_,_,_,_,_,_,_,_,_,_,_,_],[]⟩) hO0 rfl rfl rfl rfl ((c23 _ _ _ _ _ _ _ _ (((B x).length : Nat) : Int) _ (Hl.own hO0)).mono fun v _ _ h => h.trans (congrArg Value.bool (decide_eq_true (may0 h0).1))) rfl ?_
  intro s1 hO2 hS3
  refine W.op (v := .bool false) (fr1 := ⟨[_,_,_,_,_,_,_,_,_,_,_,.bool false,_,_,_,_,_,_,_,_,_,_,_,_,_,_,_,_,_,_,_,_,_,_,_,_,_,_,_,_,_,_,_,_,_,_,_],[]⟩) rfl rfl rfl rfl ?_
  refine EndsOps.nil ?_
  refine Ends.condF rfl ?_
  refine Ends.skip ?_
  refine Ends.seq ?_
  refine Ends.seq ?_
  refine Ends.region ?_
  refine W.op (v := .string x) (fr1 := ⟨[_,_,_,_,_,_,_,_,_,_,_,_,.string x,_,_,_,_,_,_,_,_,_,_,_,_,_,_,_,_,_,_,_,_,_,_,_,_,_,_,_,_,_,_,_,_,_,_],[]⟩) rfl rfl rfl rfl ?_
  refine W.op (v := .int .i64 (((B x).length : Nat) : Int)) (fr1 := ⟨[_,_,_,_,_,_,_,_,_,_,_,_,_,.int .i64 (((B x).length : Nat) : Int),_,_,_,_,_,_,_,_,_,_,_,_,_,_,_,_,_,_,_,_,_,_,_,_,_,_,_,_,_,_,_,_,_],[]⟩) rfl rfl rfl rfl ?_
  refine W.op (v := .slice al l.length cl) (fr1 := ⟨[_,_,_,_,_,_,_,_,_,_,_,_,_,_,.slice al l.length cl,_,_,_,_,_,_,_,_,_,_,_,_,_,_,_,_,_,_,_,_,_,_,_,_,_,_,_,_,_,_,_,_],[]⟩) rfl rfl rfl rfl ?_
  refine W.call (ar := [.slice al l.length cl]) (X := .int .i64 (W (growS l))) (fr1 := ⟨[_,_,_,_,_,_,_,_,_,_,_,_,_,_,_,.int .i64 (W (growS l)),_,_,_,_,_,_,_,_,_,_,_,_,_,_,_,_,_,_,_,_,_,_,_,_,_,_,_,_,_,_,_],[]⟩) hO2 rfl rfl rfl rfl (c38 _ _ _ _ _ _ _ _ _ (Hl.own hO2)) rfl ?_
  intro s4 hO5 hS6
  refine W.op (v := .int .i64 (W ((((B x).length : Nat) : Int) + W (growS l)))) (fr1 := ⟨[_,_,_,_,_,_,_,_,_,_,_,_,_,_,_,_,.int .i64 (W ((((B x).length : Nat) : Int) + W (growS l))),_,_,_,_,_,_,_,_,_,_,_,_,_,_,_,_,_,_,_,_,_,_,_,_,_,_,_,_,_,_],[]⟩) rfl (p_bin addW) rfl rfl ?_
  refine W.op (v := .bool false) (fr1 := ⟨[_,_,_,_,_,_,_,_,_,_,_,_,_,_,_,_,_,.bool false,_,_,_,_,_,_,_,_,_,_,_,_,_,_,_,_,_,_,_,_,_,_,_,_,_,_,_,_,_],[]⟩) rfl (p_bin (gtF (may0 h0).2)) rfl rfl ?_
  refine EndsOps.nil ?_
  refine Ends.condF rfl ?_
  refine Ends.skip ?_
  refine Ends.seq ?_
  refine Ends.seq ?_
  refine Ends.region ?_
  refine W.op (v := .slice al l.length cl) (fr1 := ⟨[_,_,_,_,_,_,_,_,_,_,_,_,_,_,_,_,_,_,.slice al l.length cl,_,_,_,_,_,_,_,_,_,_,_,_,_,_,_,_,_,_,_,_,_,_,_,_,_,_,_,_],[]⟩) rfl rfl rfl rfl ?_
  refine W.op (v := .int .i64 ((l.length : Nat) : Int)) (fr1 := ⟨[_,_,_,_,_,_,_,_,_,_,_,_,_,_,_,_,_,_,_,.int .i64 ((l.length : Nat) : Int),_,_,_,_,_,_,_,_,_,_,_,_,_,_,_,_,_,_,_,_,_,_,_,_,_,_,_],[]⟩) rfl rfl rfl rfl ?_
  refine W.op (v := .int .i64 (((l.length : Nat) : Int) - 1)) (fr1 := ⟨[_,_,_,_,_,_,_,_,_,_,_,_,_,_,_,_,_,_,_,_,.int .i64 (((l.length : Nat) : Int) - 1),_,_,_,_,_,_,_,_,_,_,_,_,_,_,_,_,_,_,_,_,_,_,_,_,_,_],[]⟩) rfl (p_bin (subI rfl (by omega) (by omega))) rfl rfl ?_
  refine W.op (v := .int .i64 (((l.length : Nat) : Int) - 1)) (fr1 := ⟨[_,_,_,_,_,_,.int .i64 (((l.length : Nat) : Int) - 1),_,_,_,_,_,_,_,_,_,_,_,_,_,_,_,_,_,_,_,_,_,_,_,_,_,_,_,_,_,_,_,_,_,_,_,_,_,_,_,_],[]⟩) rfl rfl rfl rfl ?_
  refine EndsOps.nil ?_
  refine W.block ?_
  refine Ends.loopInv (fun d fr s1 => ∃ (m : Nat) (y : ByteArray) (j21 j22 j23 j24 j25 j26 j27 j28 j29 j30 j31 j32 j33 j34 j35 j36 j37 j38 j39 j40 j41 j42 j43 j44 j45 : Value),fr = ⟨[.string y,.slice al l.length cl,undef,undef,.string ByteArray.empty,.int .i64 0,.int .i64 (((m : Nat) : Int) - 1),.slice al l.length cl,.string x,.int .i64 (((B x).length : Nat) : Int),.bool true,.bool false,.string x,.int .i64 (((B x).length : Nat) : Int),.slice al l.length cl,.int .i64 (W (growS l)),.int .i64 (W ((((B x).length : Nat) : Int) + W (growS l))),.bool false,.slice al l.length cl,.int .i64 ((l.length : Nat) : Int),.int .i64 (((l.length : Nat) : Int) - 1),j21,j22,j23,j24,j25,j26,j27,j28,j29,j30,j31,j32,j33,j34,j35,j36,j37,j38,j39,j40,j41,j42,j43,j44,j45,undef],[]⟩ ∧ Own s s1 ∧ d = m ∧ (m ≤ l.length) ∧ (y = rapS x (l.drop m)) ∧ (∀ e,0 < m → l[m - 1]? = some e → e.hi ≤ (((B y).length : Nat) : Int)) ∧ ((B y).length + sumT (l.take m) ≤ (B x).length + sumT l)) ?_ _ _ _ ⟨l.length,x,_,_,_,_,_,_,_,_,_,_,_,_,_,_,_,_,_,_,_,_,_,_,_,_,_,rfl,hO5,rfl,Nat.le_refl _,by rw [List.drop_length]; rfl,(fun e h he => (hR.2 _ (by omega) e he).1.2.2),by rw [List.take_length]; exact Nat.le_refl _⟩
  rintro d _ s7 ⟨m,y,j21,j22,j23,j24,j25,j26,j27,j28,j29,j30,j31,j32,j33,j34,j35,j36,j37,j38,j39,j40,j41,j42,j43,j44,j45,rfl,hO8,hd9,hm,hy,hb1,hb2⟩
  refine Ends.seq ?_
  refine Ends.seq ?_
  refine Ends.region ?_
  refine W.op (v := .int .i64 (((m : Nat) : Int) - 1)) (fr1 := ⟨[_,_,_,_,_,_,_,_,_,_,_,_,_,_,_,_,_,_,_,_,_,.int .i64 (((m : Nat) : Int) - 1),_,_,_,_,_,_,_,_,_,_,_,_,_,_,_,_,_,_,_,_,_,_,_,_,_],[]⟩) rfl rfl rfl rfl ?_
  by_cases h10 : (0 : Int) ≤ ((m : Nat) : Int) - 1
  · skip
    refine W.op (v := .bool true) (fr1 := ⟨[_,_,_,_,_,_,_,_,_,_,_,_,_,_,_,_,_,_,_,_,_,_,.bool true,_,_,_,_,_,_,_,_,_,_,_,_,_,_,_,_,_,_,_,_,_,_,_,_],[]⟩) rfl (p_bin (geT h10)) rfl rfl ?_
    refine EndsOps.nil ?_
    refine Ends.condT rfl ?_
    refine Ends.skip ?_
    refine Ends.seq ?_
    refine W.block ?_
    refine Ends.drawW (bef := [0,0,0,6,14,30,63,0,0,384,896,1920,4095,0,0,0,49152,114688,245760,516096,1048575,2097151]) (by kernel_rfl) ?_
    refine D.op (v := .string y) (fr1 := ⟨[_,_,_,_,_,_,_,_,_,_,_,_,_,_,_,_,_,_,_,_,_,_,_,_,_,.string y,_,_,_,_,_,_,_,_,_,_,_,_,_,_,_,_,_,_,_,_,_],[]⟩) rfl rfl rfl rfl rfl ?_
    refine D.op (v := .slice al l.length cl) (fr1 := ⟨[_,_,_,_,_,_,_,_,_,_,_,_,_,_,_,_,_,_,_,_,_,_,_,_,_,_,.slice al l.length cl,_,_,_,_,_,_,_,_,_,_,_,_,_,_,_,_,_,_,_,_],[]⟩) rfl rfl rfl rfl rfl ?_
    refine D.op (v := .int .i64 (((m : Nat) : Int) - 1)) (fr1 := ⟨[_,_,_,_,_,_,_,_,_,_,_,_,_,_,_,_,_,_,_,_,_,_,_,_,_,_,_,.int .i64 (((m : Nat) : Int) - 1),_,_,_,_,_,_,_,_,_,_,_,_,_,_,_,_,_,_,_],[]⟩) rfl rfl rfl rfl rfl ?_
    obtain ⟨m11,hm12⟩ : ∃ z0 : Nat,(z0 : Int) = ((m : Nat) : Int) - 1 := ⟨(((m : Nat) : Int) - 1).toNat,by omega⟩
    obtain ⟨e13,he14⟩ := ex_at (l := l) (i := m11) (by omega)
    refine D.op (v := .pointer (some ⟨Nl,ol + m11 * 3,none⟩)) (fr1 := ⟨[_,_,_,_,_,_,_,_,_,_,_,_,_,_,_,_,_,_,_,_,_,_,_,_,_,_,_,_,.pointer (some ⟨Nl,ol + m11 * 3,none⟩),_,_,_,_,_,_,_,_,_,_,_,_,_,_,_,_,_,_],[]⟩) rfl (p_ix (Sl.ixI Hl rfl rfl hm12 he14 _)) rfl rfl rfl ?_
    have hW := (hR.2 m11 (by omega) _ he14).1
    have hb := hb1 e13 (by omega) (by rw [show m - 1 = m11 by omega]; exact he14)
    have gs : sumT (l.take m) = sumT (l.take m11) + (B e13.tx).length := by rw [show m = m11 + 1 by omega]; exact sumT_step he14
    have g1 : (B (sub y 0 e13.lo.toNat)).length = e13.lo.toNat - 0 := sub_len (by omega) (by omega)
    have g2 : (B (sub y e13.hi.toNat (B y).length)).length = (B y).length - e13.hi.toNat := sub_len (by omega) (by omega)
    have g3 : (B (cat (sub y 0 e13.lo.toNat) e13.tx)).length = _ := List.length_append
    refine D.op (v := .pointer (some ⟨Nl,ol + m11 * 3 + 0,none⟩)) (fr1 := ⟨[_,_,_,_,_,_,_,_,_,_,_,_,_,_,_,_,_,_,_,_,_,_,_,_,_,_,_,_,_,.pointer (some ⟨Nl,ol + m11 * 3 + 0,none⟩),_,_,_,_,_,_,_,_,_,_,_,_,_,_,_,_,_],[]⟩) rfl rfl rfl rfl rfl ?_
    refine D.load (v := .int .i64 e13.lo) (fr1 := ⟨[_,_,_,_,_,_,_,_,_,_,_,_,_,_,_,_,_,_,_,_,_,_,_,_,_,_,_,_,_,_,.int .i64 e13.lo,_,_,_,_,_,_,_,_,_,_,_,_,_,_,_,_],[]⟩) rfl rfl rfl (fun _ h => by cases h) (fun s1 hg => (p_load1 ⟨hg.trans ((Sl.row' (Hl.own hO8) he14)).get,((Sl.row' (Hl.own hO8) he14)).lt⟩ rfl rfl rfl ((Hl.own hO8).at (j := 0) he14 rfl))) rfl ?_
    refine D.op (v := .string (sub y 0 e13.lo.toNat)) (fr1 := ⟨[_,_,_,_,_,_,_,_,_,_,_,_,_,_,_,_,_,_,_,_,_,_,_,_,_,_,_,_,_,_,_,.string (sub y 0 e13.lo.toNat),_,_,_,_,_,_,_,_,_,_,_,_,_,_,_],[]⟩) rfl (p_subTo rfl rfl rfl (by omega) (by omega)) rfl rfl rfl ?_
    refine D.op (v := .slice al l.length cl) (fr1 := ⟨[_,_,_,_,_,_,_,_,_,_,_,_,_,_,_,_,_,_,_,_,_,_,_,_,_,_,_,_,_,_,_,_,.slice al l.length cl,_,_,_,_,_,_,_,_,_,_,_,_,_,_],[]⟩) rfl rfl rfl rfl rfl ?_
    refine D.op (v := .int .i64 (((m : Nat) : Int) - 1)) (fr1 := ⟨[_,_,_,_,_,_,_,_,_,_,_,_,_,_,_,_,_,_,_,_,_,_,_,_,_,_,_,_,_,_,_,_,_,.int .i64 (((m : Nat) : Int) - 1),_,_,_,_,_,_,_,_,_,_,_,_,_],[]⟩) rfl rfl rfl rfl rfl ?_
    refine D.op (v := .pointer (some ⟨Nl,ol + m11 * 3,none⟩)) (fr1 := ⟨[_,_,_,_,_,_,_,_,_,_,_,_,_,_,_,_,_,_,_,_,_,_,_,_,_,_,_,_,_,_,_,_,_,_,.pointer (some ⟨Nl,ol + m11 * 3,none⟩),_,_,_,_,_,_,_,_,_,_,_,_],[]⟩) rfl (p_ix (Sl.ixI Hl rfl rfl hm12 he14 _)) rfl rfl rfl ?_
    refine D.op (v := .pointer (some ⟨Nl,ol + m11 * 3 + 2,none⟩)) (fr1 := ⟨[_,_,_,_,_,_,_,_,_,_,_,_,_,_,_,_,_,_,_,_,_,_,_,_,_,_,_,_,_,_,_,_,_,_,_,.pointer (some ⟨Nl,ol + m11 * 3 + 2,none⟩),_,_,_,_,_,_,_,_,_,_,_],[]⟩) rfl rfl rfl rfl rfl ?_
    refine D.load (v := .string e13.tx) (fr1 := ⟨[_,_,_,_,_,_,_,_,_,_,_,_,_,_,_,_,_,_,_,_,_,_,_,_,_,_,_,_,_,_,_,_,_,_,_,_,.string e13.tx,_,_,_,_,_,_,_,_,_,_],[]⟩) rfl rfl rfl (fun _ h => by cases h) (fun s1 hg => (p_load1 ⟨hg.trans ((Sl.row' (Hl.own hO8) he14)).get,((Sl.row' (Hl.own hO8) he14)).lt⟩ rfl rfl rfl ((Hl.own hO8).at (j := 2) he14 rfl))) rfl ?_
    refine D.op (v := .string (cat (sub y 0 e13.lo.toNat) e13.tx)) (fr1 := ⟨[_,_,_,_,_,_,_,_,_,_,_,_,_,_,_,_,_,_,_,_,_,_,_,_,_,_,_,_,_,_,_,_,_,_,_,_,_,.string (cat (sub y 0 e13.lo.toNat) e13.tx),_,_,_,_,_,_,_,_,_],[]⟩) rfl (p_bin (catT (x := sub y 0 e13.lo.toNat) (y := e13.tx) (by omega))) rfl rfl rfl ?_
    refine D.op (v := .string y) (fr1 := ⟨[_,_,_,_,_,_,_,_,_,_,_,_,_,_,_,_,_,_,_,_,_,_,_,_,_,_,_,_,_,_,_,_,_,_,_,_,_,_,.string y,_,_,_,_,_,_,_,_],[]⟩) rfl rfl rfl rfl rfl ?_
    refine D.op (v := .slice al l.length cl) (fr1 := ⟨[_,_,_,_,_,_,_,_,_,_,_,_,_,_,_,_,_,_,_,_,_,_,_,_,_,_,_,_,_,_,_,_,_,_,_,_,_,_,_,.slice al l.length cl,_,_,_,_,_,_,_],[]⟩) rfl rfl rfl rfl rfl ?_
    refine D.op (v := .int .i64 (((m : Nat) : Int) - 1)) (fr1 := ⟨[_,_,_,_,_,_,_,_,_,_,_,_,_,_,_,_,_,_,_,_,_,_,_,_,_,_,_,_,_,_,_,_,_,_,_,_,_,_,_,_,.int .i64 (((m : Nat) : Int) - 1),_,_,_,_,_,_],[]⟩) rfl rfl rfl rfl rfl ?_
    refine D.op (v := .pointer (some ⟨Nl,ol + m11 * 3,none⟩)) (fr1 := ⟨[_,_,_,_,_,_,_,_,_,_,_,_,_,_,_,_,_,_,_,_,_,_,_,_,_,_,_,_,_,_,_,_,_,_,_,_,_,_,_,_,_,.pointer (some ⟨Nl,ol + m11 * 3,none⟩),_,_,_,_,_],[]⟩) rfl (p_ix (Sl.ixI Hl rfl rfl hm12 he14 _)) rfl rfl rfl ?_
    refine D.op (v := .pointer (some ⟨Nl,ol + m11 * 3 + 1,none⟩)) (fr1 := ⟨[_,_,_,_,_,_,_,_,_,_,_,_,_,_,_,_,_,_,_,_,_,_,_,_,_,_,_,_,_,_,_,_,_,_,_,_,_,_,_,_,_,_,.pointer (some ⟨Nl,ol + m11 * 3 + 1,none⟩),_,_,_,_],[]⟩) rfl rfl rfl rfl rfl ?_
    refine D.load (v := .int .i64 e13.hi) (fr1 := ⟨[_,_,_,_,_,_,_,_,_,_,_,_,_,_,_,_,_,_,_,_,_,_,_,_,_,_,_,_,_,_,_,_,_,_,_,_,_,_,_,_,_,_,_,.int .i64 e13.hi,_,_,_],[]⟩) rfl rfl rfl (fun _ h => by cases h) (fun s1 hg => (p_load1 ⟨hg.trans ((Sl.row' (Hl.own hO8) he14)).get,((Sl.row' (Hl.own hO8) he14)).lt⟩ rfl rfl rfl ((Hl.own hO8).at (j := 1) he14 rfl))) rfl ?_
    refine D.op (v := .string (sub y e13.hi.toNat (B y).length)) (fr1 := ⟨[_,_,_,_,_,_,_,_,_,_,_,_,_,_,_,_,_,_,_,_,_,_,_,_,_,_,_,_,_,_,_,_,_,_,_,_,_,_,_,_,_,_,_,_,.string (sub y e13.hi.toNat (B y).length),_,_],[]⟩) rfl (p_subFrom rfl rfl rfl (by omega) (by omega)) rfl rfl rfl ?_
    refine D.op (v := .string (cat (cat (sub y 0 e13.lo.toNat) e13.tx) (sub y e13.hi.toNat (B y).length))) (fr1 := ⟨[_,_,_,_,_,_,_,_,_,_,_,_,_,_,_,_,_,_,_,_,_,_,_,_,_,_,_,_,_,_,_,_,_,_,_,_,_,_,_,_,_,_,_,_,_,.string (cat (cat (sub y 0 e13.lo.toNat) e13.tx) (sub y e13.hi.toNat (B y).length)),_],[]⟩) rfl (p_bin (catT (x := cat (sub y 0 e13.lo.toNat) e13.tx) (y := sub y e13.hi.toNat (B y).length) (by omega))) rfl rfl rfl ?_
    refine D.op (v := .string (cat (cat (sub y 0 e13.lo.toNat) e13.tx) (sub y e13.hi.toNat (B y).length))) (fr1 := ⟨[.string (cat (cat (sub y 0 e13.lo.toNat) e13.tx) (sub y e13.hi.toNat (B y).length)),_,_,_,_,_,_,_,_,_,_,_,_,_,_,_,_,_,_,_,_,_,_,_,_,_,_,_,_,_,_,_,_,_,_,_,_,_,_,_,_,_,_,_,_,_,_],[]⟩) rfl rfl rfl rfl rfl ?_
    refine D.nil ?_
    refine Ends.region ?_
    refine W.op (v := .int .i64 (((m : Nat) : Int) - 1)) (fr1 := ⟨[_,_,_,_,_,_,_,_,_,_,_,_,_,_,_,_,_,_,_,_,_,_,_,.int .i64 (((m : Nat) : Int) - 1),_,_,_,_,_,_,_,_,_,_,_,_,_,_,_,_,_,_,_,_,_,_,_],[]⟩) rfl rfl rfl rfl ?_
    refine W.op (v := .int .i64 (((m11 : Nat) : Int) - 1)) (fr1 := ⟨[_,_,_,_,_,_,_,_,_,_,_,_,_,_,_,_,_,_,_,_,_,_,_,_,.int .i64 (((m11 : Nat) : Int) - 1),_,_,_,_,_,_,_,_,_,_,_,_,_,_,_,_,_,_,_,_,_,_],[]⟩) rfl (p_bin (subI (by omega) (by omega) (by omega))) rfl rfl ?_
    refine W.op (v := .int .i64 (((m11 : Nat) : Int) - 1)) (fr1 := ⟨[_,_,_,_,_,_,.int .i64 (((m11 : Nat) : Int) - 1),_,_,_,_,_,_,_,_,_,_,_,_,_,_,_,_,_,_,_,_,_,_,_,_,_,_,_,_,_,_,_,_,_,_,_,_,_,_,_,_],[]⟩) rfl rfl rfl rfl ?_
    refine EndsOps.nil ?_
    exact ⟨_,(by omega),m11,cat (cat (sub y 0 e13.lo.toNat) e13.tx) (sub y e13.hi.toNat (B y).length),_,_,_,_,_,_,_,_,_,_,_,_,_,_,_,_,_,_,_,_,_,_,_,_,_,rfl,hO8,rfl,by omega,by rw [rap_step he14,show m11 + 1 = m by omega,← hy]; rfl,(fun e' h he' => by have := (hR.at he14 he' (by omega)).1; rw [B_cat,List.length_append]; omega),by rw [B_cat,List.length_append]; omega⟩
  · skip
    refine W.op (v := .bool false) (fr1 := ⟨[_,_,_,_,_,_,_,_,_,_,_,_,_,_,_,_,_,_,_,_,_,_,.bool false,_,_,_,_,_,_,_,_,_,_,_,_,_,_,_,_,_,_,_,_,_,_,_,_],[]⟩) rfl (p_bin (geF h10)) rfl rfl ?_
    refine EndsOps.nil ?_
    refine Ends.condF rfl ?_
    refine Ends.exit ?_
    refine W.outT rfl ?_
    refine Ends.seq ?_
    refine Ends.region ?_
    refine W.op (v := .string y) (fr1 := ⟨[_,_,_,_,_,_,_,_,_,_,_,_,_,_,_,_,_,_,_,_,_,_,_,_,_,_,_,_,_,_,_,_,_,_,_,_,_,_,_,_,_,_,_,_,_,_,.string y],[]⟩) rfl rfl rfl rfl ?_
    refine W.op (v := .string y) (fr1 := ⟨[_,_,_,_,.string y,_,_,_,_,_,_,_,_,_,_,_,_,_,_,_,_,_,_,_,_,_,_,_,_,_,_,_,_,_,_,_,_,_,_,_,_,_,_,_,_,_,_],[]⟩) rfl rfl rfl rfl ?_
    refine W.op (v := .int .i64 0) (fr1 := ⟨[_,_,_,_,_,.int .i64 0,_,_,_,_,_,_,_,_,_,_,_,_,_,_,_,_,_,_,_,_,_,_,_,_,_,_,_,_,_,_,_,_,_,_,_,_,_,_,_,_,_],[]⟩) rfl rfl rfl rfl ?_
    refine EndsOps.nil ?_
    refine Ends.ret ?_
    exact ⟨rfl,rfl,hO8,by
      show Value.tuple ⟨[.string y,.int .i64 0]⟩ = Value.tuple ⟨[.string (rapS x l),.int .i64 0]⟩
      rw [hy,show m = 0 by omega]; rfl⟩
end Go.Ev.R1

