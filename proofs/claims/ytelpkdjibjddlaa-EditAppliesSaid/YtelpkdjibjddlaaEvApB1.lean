/-
  EV: contracts of the first seat's functions.
-/
import Derived.Test.YtelpkdjibjddlaaEvApA1
import Derived.Test.YtelpkdjibjddlaaEvApplyLaw
namespace Go.Ev.R1
open Go Go.Ev Go.Proofs
set_option maxRecDepth 10000

theorem eq97 (a b c d : Int) (x y : ByteArray) : equalF R1.T 50 97 (.agg ⟨[.int .i64 a, .int .i64 b, .string x]⟩) (.agg ⟨[.int .i64 c, .int .i64 d, .string y]⟩) = (match some (a == c) with | some true => (match some (b == d) with | some true => (match some (x.data.toList == y.data.toList) with | some true => some true | r => r) | r => r) | r => r) := by kernel_rfl
theorem ne97 (a b c d : Int) (x y : ByteArray) (z : Bool) : binop R1.T .neq 97 z (.agg ⟨[.int .i64 a, .int .i64 b, .string x]⟩) (.agg ⟨[.int .i64 c, .int .i64 d, .string y]⟩) = (equalF R1.T 50 97 (.agg ⟨[.int .i64 a, .int .i64 b, .string x]⟩) (.agg ⟨[.int .i64 c, .int .i64 d, .string y]⟩)).map fun b => Value.bool (!b) := rfl
theorem ed97neqT {a b c d : Int} {x y : ByteArray} {z : Bool} (h : a = c ∧ b = d ∧ B x = B y) : binop R1.T .neq 97 z (.agg ⟨[.int .i64 a, .int .i64 b, .string x]⟩) (.agg ⟨[.int .i64 c, .int .i64 d, .string y]⟩) = some (.bool false) := by
  have h3 : x.data.toList = y.data.toList := h.2.2
  rw [ne97, eq97]; simp [h.1, h.2.1, h3]
theorem ed97neqF {a b c d : Int} {x y : ByteArray} {z : Bool} (h : ¬ (a = c ∧ b = d ∧ B x = B y)) : binop R1.T .neq 97 z (.agg ⟨[.int .i64 a, .int .i64 b, .string x]⟩) (.agg ⟨[.int .i64 c, .int .i64 d, .string y]⟩) = some (.bool true) := by
  rw [ne97, eq97]
  by_cases h1 : a = c
  · by_cases h2 : b = d
    · have h3 : ¬ x.data = y.data := fun h3 => h ⟨h1, h2, congrArg Array.toList h3⟩
      simp [h1, h2, h3]
    · simp [h1, h2]
  · simp [h1]

theorem c32T (x : ByteArray) (hx : (B x).length ≤ 140737488351232) (al : Option Addr) (l : List Ed) (cl Nl ol : Nat) (vl : List Value) (yl zl : Nat) (hS : (B x).length + sumT l ≤ 1000000) (hB : l.length ≤ 1000) (h0 : mayC (B x).length l = 0) (C : Cp 3 al l.length cl) (s : St) (Hl : Sl Ed.cells 3 s.t s.next al l Nl ol vl yl zl)  : EndsPure R1.T 32 [.string x, .slice al l.length cl] s (fun v t m => (NoTwin (invS x l) l.length → ∃ w, v = .tuple ⟨[w, .int .i64 0]⟩ ∧ OL Ed.cells 3 97 s.next t m w (invS x l)) ∧ (¬ NoTwin (invS x l) l.length → v = .tuple ⟨[.slice none 0 0, .int .i64 6]⟩)) := by
  refine EndsPure.of (rs := [4, 5]) (fr0 := ⟨[.string x, .slice al l.length cl, undef, undef, undef, undef, undef, undef, undef, undef, undef, undef, undef, undef, undef, undef, undef, undef, undef, undef, undef, undef, undef, undef, undef, undef, undef, undef, undef, undef, undef, undef, undef, undef, undef, undef, undef, undef, undef, undef, undef, undef, undef, undef, undef, undef, undef, undef, undef, undef, undef, undef, undef, undef, undef, undef, undef, undef, undef, undef, undef, undef, undef, undef, undef, undef, undef, undef, undef, undef, undef, undef, undef, undef], []⟩) (by kernel_rfl : R1.T.fn 32 = some ⟨74, (Try.f32.body).getD .skip, [.tmp 4, .tmp 5]⟩) rfl ?_
  have hO0 := Own.refl s
  have Ml := Hl.small
  have hR := (may0 h0).1
  simp only [Try.f32, Option.getD]
  refine Ends.seq ?_
  refine Ends.region ?_
  refine W.op (v := .slice none 0 0) (fr1 := ⟨[_, _, _, _, .slice none 0 0, _, _, _, _, _, _, _, _, _, _, _, _, _, _, _, _, _, _, _, _, _, _, _, _, _, _, _, _, _, _, _, _, _, _, _, _, _, _, _, _, _, _, _, _, _, _, _, _, _, _, _, _, _, _, _, _, _, _, _, _, _, _, _, _, _, _, _, _, _], []⟩) rfl rfl rfl rfl ?_
  refine W.op (v := .int .i64 0) (fr1 := ⟨[_, _, _, _, _, .int .i64 0, _, _, _, _, _, _, _, _, _, _, _, _, _, _, _, _, _, _, _, _, _, _, _, _, _, _, _, _, _, _, _, _, _, _, _, _, _, _, _, _, _, _, _, _, _, _, _, _, _, _, _, _, _, _, _, _, _, _, _, _, _, _, _, _, _, _, _, _], []⟩) rfl rfl rfl rfl ?_
  refine EndsOps.nil ?_
  refine Ends.seq ?_
  refine Ends.seq ?_
  refine Ends.region ?_
  refine W.op (v := .string x) (fr1 := ⟨[_, _, _, _, _, _, _, _, _, _, _, _, .string x, _, _, _, _, _, _, _, _, _, _, _, _, _, _, _, _, _, _, _, _, _, _, _, _, _, _, _, _, _, _, _, _, _, _, _, _, _, _, _, _, _, _, _, _, _, _, _, _, _, _, _, _, _, _, _, _, _, _, _, _, _], []⟩) rfl rfl rfl rfl ?_
  refine W.op (v := .slice al l.length cl) (fr1 := ⟨[_, _, _, _, _, _, _, _, _, _, _, _, _, .slice al l.length cl, _, _, _, _, _, _, _, _, _, _, _, _, _, _, _, _, _, _, _, _, _, _, _, _, _, _, _, _, _, _, _, _, _, _, _, _, _, _, _, _, _, _, _, _, _, _, _, _, _, _, _, _, _, _, _, _, _, _, _, _], []⟩) rfl rfl rfl rfl ?_
  refine W.call (ar := [.string x, .slice al l.length cl]) (X := .tuple ⟨[.string (rapS x l), .int .i64 0]⟩) (fr1 := ⟨[_, _, _, _, _, _, _, _, _, _, _, _, _, _, .tuple ⟨[.string (rapS x l), .int .i64 0]⟩, _, _, _, _, _, _, _, _, _, _, _, _, _, _, _, _, _, _, _, _, _, _, _, _, _, _, _, _, _, _, _, _, _, _, _, _, _, _, _, _, _, _, _, _, _, _, _, _, _, _, _, _, _, _, _, _, _, _, _], []⟩) hO0 rfl rfl rfl rfl (c30T x hx _ l _ _ _ _ _ _ hS h0 _ (Hl.own hO0)) rfl ?_
  intro s1 hO2 hS3
  refine W.op (v := .tuple ⟨[.string (rapS x l), .int .i64 0]⟩) (fr1 := ⟨[_, _, _, _, _, _, _, _, _, _, _, .tuple ⟨[.string (rapS x l), .int .i64 0]⟩, _, _, _, _, _, _, _, _, _, _, _, _, _, _, _, _, _, _, _, _, _, _, _, _, _, _, _, _, _, _, _, _, _, _, _, _, _, _, _, _, _, _, _, _, _, _, _, _, _, _, _, _, _, _, _, _, _, _, _, _, _, _], []⟩) rfl rfl rfl rfl ?_
  refine W.op (v := .string (rapS x l)) (fr1 := ⟨[_, _, _, _, _, _, _, _, _, _, _, _, _, _, _, .string (rapS x l), _, _, _, _, _, _, _, _, _, _, _, _, _, _, _, _, _, _, _, _, _, _, _, _, _, _, _, _, _, _, _, _, _, _, _, _, _, _, _, _, _, _, _, _, _, _, _, _, _, _, _, _, _, _, _, _, _, _], []⟩) rfl rfl rfl rfl ?_
  refine W.op (v := .int .i64 0) (fr1 := ⟨[_, _, _, _, _, _, _, _, _, _, _, _, _, _, _, _, .int .i64 0, _, _, _, _, _, _, _, _, _, _, _, _, _, _, _, _, _, _, _, _, _, _, _, _, _, _, _, _, _, _, _, _, _, _, _, _, _, _, _, _, _, _, _, _, _, _, _, _, _, _, _, _, _, _, _, _, _], []⟩) rfl rfl rfl rfl ?_
  refine W.op (v := .string (rapS x l)) (fr1 := ⟨[_, _, _, _, _, _, .string (rapS x l), _, _, _, _, _, _, _, _, _, _, _, _, _, _, _, _, _, _, _, _, _, _, _, _, _, _, _, _, _, _, _, _, _, _, _, _, _, _, _, _, _, _, _, _, _, _, _, _, _, _, _, _, _, _, _, _, _, _, _, _, _, _, _, _, _, _, _], []⟩) rfl rfl rfl rfl ?_
  refine W.op (v := .int .i64 0) (fr1 := ⟨[_, _, _, _, _, _, _, .int .i64 0, _, _, _, _, _, _, _, _, _, _, _, _, _, _, _, _, _, _, _, _, _, _, _, _, _, _, _, _, _, _, _, _, _, _, _, _, _, _, _, _, _, _, _, _, _, _, _, _, _, _, _, _, _, _, _, _, _, _, _, _, _, _, _, _, _, _], []⟩) rfl rfl rfl rfl ?_
  refine EndsOps.nil ?_
  refine Ends.seq ?_
  refine Ends.region ?_
  refine W.op (v := .int .i64 0) (fr1 := ⟨[_, _, _, _, _, _, _, _, _, _, _, _, _, _, _, _, _, .int .i64 0, _, _, _, _, _, _, _, _, _, _, _, _, _, _, _, _, _, _, _, _, _, _, _, _, _, _, _, _, _, _, _, _, _, _, _, _, _, _, _, _, _, _, _, _, _, _, _, _, _, _, _, _, _, _, _, _], []⟩) rfl rfl rfl rfl ?_
  refine W.op (v := .bool false) (fr1 := ⟨[_, _, _, _, _, _, _, _, _, _, _, _, _, _, _, _, _, _, .bool false, _, _, _, _, _, _, _, _, _, _, _, _, _, _, _, _, _, _, _, _, _, _, _, _, _, _, _, _, _, _, _, _, _, _, _, _, _, _, _, _, _, _, _, _, _, _, _, _, _, _, _, _, _, _, _], []⟩) rfl rfl rfl rfl ?_
  refine EndsOps.nil ?_
  refine Ends.condF rfl ?_
  refine Ends.skip ?_
  refine Ends.seq ?_
  refine Ends.region ?_
  refine W.op (v := .slice none 0 0) (fr1 := ⟨[_, _, _, _, _, _, _, _, .slice none 0 0, _, _, _, _, _, _, _, _, _, _, _, _, _, _, _, _, _, _, _, _, _, _, _, _, _, _, _, _, _, _, _, _, _, _, _, _, _, _, _, _, _, _, _, _, _, _, _, _, _, _, _, _, _, _, _, _, _, _, _, _, _, _, _, _, _], []⟩) rfl rfl rfl rfl ?_
  refine EndsOps.nil ?_
  refine Ends.seq ?_
  refine Ends.seq ?_
  refine Ends.region ?_
  refine W.op (v := .int .i64 0) (fr1 := ⟨[_, _, _, _, _, _, _, _, _, .int .i64 0, _, _, _, _, _, _, _, _, _, _, _, _, _, _, _, _, _, _, _, _, _, _, _, _, _, _, _, _, _, _, _, _, _, _, _, _, _, _, _, _, _, _, _, _, _, _, _, _, _, _, _, _, _, _, _, _, _, _, _, _, _, _, _, _], []⟩) rfl rfl rfl rfl ?_
  refine EndsOps.nil ?_
  refine W.block ?_
  refine Ends.loopInv (fun d fr s1 => ∃ (i : Nat) (v : Value) (j4 j5 j10 j20 j21 j22 j23 j24 j25 j26 j27 j28 j29 j30 j31 j32 j33 j34 j35 j36 j37 j38 j39 j40 j41 j42 j43 j44 j45 j46 j47 j48 j49 j50 j51 j52 j53 j54 j55 j56 j57 j58 j59 j60 j61 j62 j63 j64 j65 j66 j67 j68 j69 j70 j71 j72 : Value), fr = ⟨[.string x, .slice al l.length cl, undef, undef, j4, j5, .string (rapS x l), .int .i64 0, v, .int .i64 ((i : Nat) : Int), j10, .tuple ⟨[.string (rapS x l), .int .i64 0]⟩, .string x, .slice al l.length cl, .tuple ⟨[.string (rapS x l), .int .i64 0]⟩, .string (rapS x l), .int .i64 0, .int .i64 0, .bool false, undef, j20, j21, j22, j23, j24, j25, j26, j27, j28, j29, j30, j31, j32, j33, j34, j35, j36, j37, j38, j39, j40, j41, j42, j43, j44, j45, j46, j47, j48, j49, j50, j51, j52, j53, j54, j55, j56, j57, j58, j59, j60, j61, j62, j63, j64, j65, j66, j67, j68, j69, j70, j71, j72, undef], []⟩ ∧ Own s s1 ∧ d = l.length - i ∧ (OL Ed.cells 3 97 s.next s1.t s1.next v ((invF x (l.take i)).1)) ∧ (i ≤ l.length) ∧ (NoTwin (invS x l) i)) ?_ _ _ _ ⟨0, .slice none 0 0, _, _, _, _, _, _, _, _, _, _, _, _, _, _, _, _, _, _, _, _, _, _, _, _, _, _, _, _, _, _, _, _, _, _, _, _, _, _, _, _, _, _, _, _, _, _, _, _, _, _, _, _, _, _, _, _, rfl, hO2, rfl, OL.nil, Nat.zero_le _, fun k hk => absurd hk (Nat.not_lt_zero k)⟩
  rintro d _ s4 ⟨i, v, j4, j5, j10, j20, j21, j22, j23, j24, j25, j26, j27, j28, j29, j30, j31, j32, j33, j34, j35, j36, j37, j38, j39, j40, j41, j42, j43, j44, j45, j46, j47, j48, j49, j50, j51, j52, j53, j54, j55, j56, j57, j58, j59, j60, j61, j62, j63, j64, j65, j66, j67, j68, j69, j70, j71, j72, rfl, hO5, hd6, hol7, hi, hN⟩
  have gl : (invF x (l.take i)).1.length = i := invF_len' hi
  refine Ends.seq ?_
  refine Ends.seq ?_
  refine Ends.region ?_
  refine W.op (v := .int .i64 ((i : Nat) : Int)) (fr1 := ⟨[_, _, _, _, _, _, _, _, _, _, _, _, _, _, _, _, _, _, _, _, .int .i64 ((i : Nat) : Int), _, _, _, _, _, _, _, _, _, _, _, _, _, _, _, _, _, _, _, _, _, _, _, _, _, _, _, _, _, _, _, _, _, _, _, _, _, _, _, _, _, _, _, _, _, _, _, _, _, _, _, _, _], []⟩) rfl rfl rfl rfl ?_
  refine W.op (v := .slice al l.length cl) (fr1 := ⟨[_, _, _, _, _, _, _, _, _, _, _, _, _, _, _, _, _, _, _, _, _, .slice al l.length cl, _, _, _, _, _, _, _, _, _, _, _, _, _, _, _, _, _, _, _, _, _, _, _, _, _, _, _, _, _, _, _, _, _, _, _, _, _, _, _, _, _, _, _, _, _, _, _, _, _, _, _, _], []⟩) rfl rfl rfl rfl ?_
  refine W.op (v := .int .i64 ((l.length : Nat) : Int)) (fr1 := ⟨[_, _, _, _, _, _, _, _, _, _, _, _, _, _, _, _, _, _, _, _, _, _, .int .i64 ((l.length : Nat) : Int), _, _, _, _, _, _, _, _, _, _, _, _, _, _, _, _, _, _, _, _, _, _, _, _, _, _, _, _, _, _, _, _, _, _, _, _, _, _, _, _, _, _, _, _, _, _, _, _, _, _, _], []⟩) rfl rfl rfl rfl ?_
  by_cases h8 : ((i : Nat) : Int) < ((l.length : Nat) : Int)
  · skip
    refine W.op (v := .bool true) (fr1 := ⟨[_, _, _, _, _, _, _, _, _, _, _, _, _, _, _, _, _, _, _, _, _, _, _, .bool true, _, _, _, _, _, _, _, _, _, _, _, _, _, _, _, _, _, _, _, _, _, _, _, _, _, _, _, _, _, _, _, _, _, _, _, _, _, _, _, _, _, _, _, _, _, _, _, _, _, _], []⟩) rfl (p_bin (ltT h8)) rfl rfl ?_
    refine EndsOps.nil ?_
    refine Ends.condT rfl ?_
    refine Ends.skip ?_
    refine Ends.seq ?_
    refine W.block ?_
    refine Ends.seq ?_
    refine Ends.drawW (bef := [0, 0, 3, 7, 15, 0, 0, 96, 224, 511, 1023]) (by kernel_rfl) ?_
    refine D.op (v := .slice al l.length cl) (fr1 := ⟨[_, _, _, _, _, _, _, _, _, _, _, _, _, _, _, _, _, _, _, _, _, _, _, _, _, _, .slice al l.length cl, _, _, _, _, _, _, _, _, _, _, _, _, _, _, _, _, _, _, _, _, _, _, _, _, _, _, _, _, _, _, _, _, _, _, _, _, _, _, _, _, _, _, _, _, _, _, _], []⟩) rfl rfl rfl rfl rfl ?_
    refine D.op (v := .int .i64 ((i : Nat) : Int)) (fr1 := ⟨[_, _, _, _, _, _, _, _, _, _, _, _, _, _, _, _, _, _, _, _, _, _, _, _, _, _, _, .int .i64 ((i : Nat) : Int), _, _, _, _, _, _, _, _, _, _, _, _, _, _, _, _, _, _, _, _, _, _, _, _, _, _, _, _, _, _, _, _, _, _, _, _, _, _, _, _, _, _, _, _, _, _], []⟩) rfl rfl rfl rfl rfl ?_
    obtain ⟨e9, he10⟩ := ex_at (l := l) (i := i) (by omega)
    refine D.op (v := .pointer (some ⟨Nl, ol + i * 3, none⟩)) (fr1 := ⟨[_, _, _, _, _, _, _, _, _, _, _, _, _, _, _, _, _, _, _, _, _, _, _, _, _, _, _, _, .pointer (some ⟨Nl, ol + i * 3, none⟩), _, _, _, _, _, _, _, _, _, _, _, _, _, _, _, _, _, _, _, _, _, _, _, _, _, _, _, _, _, _, _, _, _, _, _, _, _, _, _, _, _, _, _, _, _], []⟩) rfl (p_ix (Sl.ix Hl rfl rfl he10 _)) rfl rfl rfl ?_
    refine D.op (v := .pointer (some ⟨Nl, ol + i * 3 + 0, none⟩)) (fr1 := ⟨[_, _, _, _, _, _, _, _, _, _, _, _, _, _, _, _, _, _, _, _, _, _, _, _, _, _, _, _, _, .pointer (some ⟨Nl, ol + i * 3 + 0, none⟩), _, _, _, _, _, _, _, _, _, _, _, _, _, _, _, _, _, _, _, _, _, _, _, _, _, _, _, _, _, _, _, _, _, _, _, _, _, _, _, _, _, _, _, _], []⟩) rfl rfl rfl rfl rfl ?_
    refine D.load (v := .int .i64 e9.lo) (fr1 := ⟨[_, _, _, _, _, _, _, _, _, _, _, _, _, _, _, _, _, _, _, _, _, _, _, _, _, _, _, _, _, _, .int .i64 e9.lo, _, _, _, _, _, _, _, _, _, _, _, _, _, _, _, _, _, _, _, _, _, _, _, _, _, _, _, _, _, _, _, _, _, _, _, _, _, _, _, _, _, _, _], []⟩) rfl rfl rfl (fun _ h => by cases h) (fun s1 hg => (p_load1 ⟨hg.trans ((Sl.row' (Hl.own hO5) he10)).get, ((Sl.row' (Hl.own hO5) he10)).lt⟩ rfl rfl rfl ((Hl.own hO5).at (j := 0) he10 rfl))) rfl ?_
    refine D.op (v := .slice al l.length cl) (fr1 := ⟨[_, _, _, _, _, _, _, _, _, _, _, _, _, _, _, _, _, _, _, _, _, _, _, _, _, _, _, _, _, _, _, .slice al l.length cl, _, _, _, _, _, _, _, _, _, _, _, _, _, _, _, _, _, _, _, _, _, _, _, _, _, _, _, _, _, _, _, _, _, _, _, _, _, _, _, _, _, _], []⟩) rfl rfl rfl rfl rfl ?_
    refine D.op (v := .int .i64 ((i : Nat) : Int)) (fr1 := ⟨[_, _, _, _, _, _, _, _, _, _, _, _, _, _, _, _, _, _, _, _, _, _, _, _, _, _, _, _, _, _, _, _, .int .i64 ((i : Nat) : Int), _, _, _, _, _, _, _, _, _, _, _, _, _, _, _, _, _, _, _, _, _, _, _, _, _, _, _, _, _, _, _, _, _, _, _, _, _, _, _, _, _], []⟩) rfl rfl rfl rfl rfl ?_
    refine D.op (v := .slice al ((l.take i).length) cl) (fr1 := ⟨[_, _, _, _, _, _, _, _, _, _, _, _, _, _, _, _, _, _, _, _, _, _, _, _, _, _, _, _, _, _, _, _, _, .slice al ((l.take i).length) cl, _, _, _, _, _, _, _, _, _, _, _, _, _, _, _, _, _, _, _, _, _, _, _, _, _, _, _, _, _, _, _, _, _, _, _, _, _, _, _, _], []⟩) rfl (p_takeTo rfl rfl rfl rfl C (by omega)) rfl rfl rfl ?_
    have gS11 := ((Hl.take i).own hO5)
    refine D.call (ar := [.slice al ((l.take i).length) cl]) (X := .int .i64 (W (growS (l.take i)))) (fr1 := ⟨[_, _, _, _, _, _, _, _, _, _, _, _, _, _, _, _, _, _, _, _, _, _, _, _, _, _, _, _, _, _, _, _, _, _, .int .i64 (W (growS (l.take i))), _, _, _, _, _, _, _, _, _, _, _, _, _, _, _, _, _, _, _, _, _, _, _, _, _, _, _, _, _, _, _, _, _, _, _, _, _, _, _], []⟩) hO5 rfl rfl rfl rfl rfl (c38 _ _ _ _ _ _ _ _ _ gS11) rfl ?_
    intro s12 hO13 hS14
    have hE15 := (Own.refl s4).trans hS14
    refine D.op (v := .int .i64 (W (e9.lo + (invF x (l.take i)).2))) (fr1 := ⟨[_, _, _, _, _, _, _, _, _, _, _, _, _, _, _, _, _, _, _, _, _, _, _, _, _, _, _, _, _, _, _, _, _, _, _, .int .i64 (W (e9.lo + (invF x (l.take i)).2)), _, _, _, _, _, _, _, _, _, _, _, _, _, _, _, _, _, _, _, _, _, _, _, _, _, _, _, _, _, _, _, _, _, _, _, _, _, _], []⟩) rfl (p_bin (addW.trans (congrArg (fun z => some (Value.int IntKind.i64 z)) (by rw [invF_by (by omega)])))) rfl rfl rfl ?_
    refine D.op (v := .int .i64 (W (e9.lo + (invF x (l.take i)).2))) (fr1 := ⟨[_, _, _, _, _, _, _, _, _, _, .int .i64 (W (e9.lo + (invF x (l.take i)).2)), _, _, _, _, _, _, _, _, _, _, _, _, _, _, _, _, _, _, _, _, _, _, _, _, _, _, _, _, _, _, _, _, _, _, _, _, _, _, _, _, _, _, _, _, _, _, _, _, _, _, _, _, _, _, _, _, _, _, _, _, _, _, _], []⟩) rfl rfl rfl rfl rfl ?_
    refine D.nil ?_
    refine Ends.seq ?_
    refine Ends.seq ?_
    refine Ends.region ?_
    refine W.op (v := .int .i64 ((i : Nat) : Int)) (fr1 := ⟨[_, _, _, _, _, _, _, _, _, _, _, _, _, _, _, _, _, _, _, _, _, _, _, _, _, _, _, _, _, _, _, _, _, _, _, _, .int .i64 ((i : Nat) : Int), _, _, _, _, _, _, _, _, _, _, _, _, _, _, _, _, _, _, _, _, _, _, _, _, _, _, _, _, _, _, _, _, _, _, _, _, _], []⟩) rfl rfl rfl rfl ?_
    by_cases h16 : (0 : Int) < ((i : Nat) : Int)
    · skip
      refine W.op (v := .bool true) (fr1 := ⟨[_, _, _, _, _, _, _, _, _, _, _, _, _, _, _, _, _, _, _, _, _, _, _, _, _, _, _, _, _, _, _, _, _, _, _, _, _, .bool true, _, _, _, _, _, _, _, _, _, _, _, _, _, _, _, _, _, _, _, _, _, _, _, _, _, _, _, _, _, _, _, _, _, _, _, _], []⟩) rfl (p_bin (gtT h16)) rfl rfl ?_
      refine W.op (v := .bool true) (fr1 := ⟨[_, _, _, _, _, _, _, _, _, _, _, _, _, _, _, _, _, _, _, _, _, _, _, _, _, _, _, _, _, _, _, _, _, _, _, _, _, _, .bool true, _, _, _, _, _, _, _, _, _, _, _, _, _, _, _, _, _, _, _, _, _, _, _, _, _, _, _, _, _, _, _, _, _, _, _], []⟩) rfl rfl rfl rfl ?_
      refine W.op (v := v) (fr1 := ⟨[_, _, _, _, _, _, _, _, _, _, _, _, _, _, _, _, _, _, _, _, _, _, _, _, _, _, _, _, _, _, _, _, _, _, _, _, _, _, _, v, _, _, _, _, _, _, _, _, _, _, _, _, _, _, _, _, _, _, _, _, _, _, _, _, _, _, _, _, _, _, _, _, _, _], []⟩) rfl rfl rfl rfl ?_
      refine W.op (v := .int .i64 ((i : Nat) : Int)) (fr1 := ⟨[_, _, _, _, _, _, _, _, _, _, _, _, _, _, _, _, _, _, _, _, _, _, _, _, _, _, _, _, _, _, _, _, _, _, _, _, _, _, _, _, .int .i64 ((i : Nat) : Int), _, _, _, _, _, _, _, _, _, _, _, _, _, _, _, _, _, _, _, _, _, _, _, _, _, _, _, _, _, _, _, _, _], []⟩) rfl rfl rfl rfl ?_
      obtain ⟨q17, hq18⟩ : ∃ z0 : Nat, (z0 : Int) = ((i : Nat) : Int) - 1 := ⟨(i - 1), by omega⟩
      refine W.op (v := .int .i64 ((q17 : Nat) : Int)) (fr1 := ⟨[_, _, _, _, _, _, _, _, _, _, _, _, _, _, _, _, _, _, _, _, _, _, _, _, _, _, _, _, _, _, _, _, _, _, _, _, _, _, _, _, _, .int .i64 ((q17 : Nat) : Int), _, _, _, _, _, _, _, _, _, _, _, _, _, _, _, _, _, _, _, _, _, _, _, _, _, _, _, _, _, _, _, _], []⟩) rfl (p_bin (subI (by omega) (by omega) (by omega))) rfl rfl ?_
      obtain ⟨a19, cq20, N21, v22, y23, z24, rfl, H25, lo26, C27⟩ := (hol7.own hE15).sl (fun _ => rfl)
      have sm_a19 := H25.small
      obtain ⟨e28, he29⟩ := ex_at (l := ((invF x (l.take i)).1)) (i := q17) (by omega)
      refine W.op (v := .pointer (some ⟨N21, 0 + q17 * 3, none⟩)) (fr1 := ⟨[_, _, _, _, _, _, _, _, _, _, _, _, _, _, _, _, _, _, _, _, _, _, _, _, _, _, _, _, _, _, _, _, _, _, _, _, _, _, _, _, _, _, .pointer (some ⟨N21, 0 + q17 * 3, none⟩), _, _, _, _, _, _, _, _, _, _, _, _, _, _, _, _, _, _, _, _, _, _, _, _, _, _, _, _, _, _, _], []⟩) rfl (p_ix (Sl.ix H25 rfl rfl he29 _)) rfl rfl ?_
      refine W.op (v := .pointer (some ⟨N21, 0 + q17 * 3 + 0, none⟩)) (fr1 := ⟨[_, _, _, _, _, _, _, _, _, _, _, _, _, _, _, _, _, _, _, _, _, _, _, _, _, _, _, _, _, _, _, _, _, _, _, _, _, _, _, _, _, _, _, .pointer (some ⟨N21, 0 + q17 * 3 + 0, none⟩), _, _, _, _, _, _, _, _, _, _, _, _, _, _, _, _, _, _, _, _, _, _, _, _, _, _, _, _, _, _], []⟩) rfl rfl rfl rfl ?_
      refine W.op (v := .int .i64 e28.lo) (fr1 := ⟨[_, _, _, _, _, _, _, _, _, _, _, _, _, _, _, _, _, _, _, _, _, _, _, _, _, _, _, _, _, _, _, _, _, _, _, _, _, _, _, _, _, _, _, _, .int .i64 e28.lo, _, _, _, _, _, _, _, _, _, _, _, _, _, _, _, _, _, _, _, _, _, _, _, _, _, _, _, _, _], []⟩) rfl (p_load1 (Sl.row' (H25.own (Own.refl s12)) he29) rfl rfl rfl ((H25.own (Own.refl s12)).at (j := 0) he29 rfl)) rfl rfl ?_
      refine W.op (v := .int .i64 (W (e9.lo + (invF x (l.take i)).2))) (fr1 := ⟨[_, _, _, _, _, _, _, _, _, _, _, _, _, _, _, _, _, _, _, _, _, _, _, _, _, _, _, _, _, _, _, _, _, _, _, _, _, _, _, _, _, _, _, _, _, .int .i64 (W (e9.lo + (invF x (l.take i)).2)), _, _, _, _, _, _, _, _, _, _, _, _, _, _, _, _, _, _, _, _, _, _, _, _, _, _, _, _], []⟩) rfl rfl rfl rfl ?_
      by_cases h30 : e28.lo = W (e9.lo + (invF x (l.take i)).2)
      · skip
        refine W.op (v := .bool true) (fr1 := ⟨[_, _, _, _, _, _, _, _, _, _, _, _, _, _, _, _, _, _, _, _, _, _, _, _, _, _, _, _, _, _, _, _, _, _, _, _, _, _, _, _, _, _, _, _, _, _, .bool true, _, _, _, _, _, _, _, _, _, _, _, _, _, _, _, _, _, _, _, _, _, _, _, _, _, _, _], []⟩) rfl (p_bin (eqT h30)) rfl rfl ?_
        refine W.op (v := .bool true) (fr1 := ⟨[_, _, _, _, _, _, _, _, _, _, _, _, _, _, _, _, _, _, _, _, _, _, _, _, _, _, _, _, _, _, _, _, _, _, _, _, _, _, _, _, _, _, _, _, _, _, _, .bool true, _, _, _, _, _, _, _, _, _, _, _, _, _, _, _, _, _, _, _, _, _, _, _, _, _, _], []⟩) rfl rfl rfl rfl ?_
        refine EndsOps.nil ?_
        refine Ends.condT rfl ?_
        refine Ends.seq ?_
        refine Ends.region ?_
        refine W.op (v := .slice none 0 0) (fr1 := ⟨[_, _, _, _, .slice none 0 0, _, _, _, _, _, _, _, _, _, _, _, _, _, _, _, _, _, _, _, _, _, _, _, _, _, _, _, _, _, _, _, _, _, _, _, _, _, _, _, _, _, _, _, _, _, _, _, _, _, _, _, _, _, _, _, _, _, _, _, _, _, _, _, _, _, _, _, _, _], []⟩) rfl rfl rfl rfl ?_
        refine W.op (v := .int .i64 6) (fr1 := ⟨[_, _, _, _, _, .int .i64 6, _, _, _, _, _, _, _, _, _, _, _, _, _, _, _, _, _, _, _, _, _, _, _, _, _, _, _, _, _, _, _, _, _, _, _, _, _, _, _, _, _, _, _, _, _, _, _, _, _, _, _, _, _, _, _, _, _, _, _, _, _, _, _, _, _, _, _, _], []⟩) rfl rfl rfl rfl ?_
        refine EndsOps.nil ?_
        refine Ends.ret ?_
        exact ⟨rfl, rfl, hO13, ⟨fun hT => absurd h30 (hT i (by omega) _ _ (inv_at he10) (by omega) (by rw [show i - 1 = q17 by omega]; exact inv_old (by omega) (by omega) he29)), fun _ => rfl⟩⟩
      · skip
        refine W.op (v := .bool false) (fr1 := ⟨[_, _, _, _, _, _, _, _, _, _, _, _, _, _, _, _, _, _, _, _, _, _, _, _, _, _, _, _, _, _, _, _, _, _, _, _, _, _, _, _, _, _, _, _, _, _, .bool false, _, _, _, _, _, _, _, _, _, _, _, _, _, _, _, _, _, _, _, _, _, _, _, _, _, _, _], []⟩) rfl (p_bin (eqF h30)) rfl rfl ?_
        refine W.op (v := .bool false) (fr1 := ⟨[_, _, _, _, _, _, _, _, _, _, _, _, _, _, _, _, _, _, _, _, _, _, _, _, _, _, _, _, _, _, _, _, _, _, _, _, _, _, _, _, _, _, _, _, _, _, _, .bool false, _, _, _, _, _, _, _, _, _, _, _, _, _, _, _, _, _, _, _, _, _, _, _, _, _, _], []⟩) rfl rfl rfl rfl ?_
        refine EndsOps.nil ?_
        refine Ends.condF rfl ?_
        refine Ends.skip ?_
        refine Ends.drawE (bef := [0, 0, 0, 0, 0, 24, 56, 120, 248, 508, 0, 0, 0, 6144, 14336, 30720, 0, 0, 196608, 458752, 983040, 2096128, 4194302, 8388606, 16777215, 33554431]) (by kernel_rfl) ?_
        refine E.op (v := .slice a19 (((invF x (l.take i)).1).length) cq20) (fr1 := ⟨[_, _, _, _, _, _, _, _, _, _, _, _, _, _, _, _, _, _, _, _, _, _, _, _, _, _, _, _, _, _, _, _, _, _, _, _, _, _, _, _, _, _, _, _, _, _, _, _, .slice a19 (((invF x (l.take i)).1).length) cq20, _, _, _, _, _, _, _, _, _, _, _, _, _, _, _, _, _, _, _, _, _, _, _, _, _], []⟩) rfl rfl rfl rfl rfl ?_
        refine E.op (v := .int .i64 (W (e9.lo + (invF x (l.take i)).2))) (fr1 := ⟨[_, _, _, _, _, _, _, _, _, _, _, _, _, _, _, _, _, _, _, _, _, _, _, _, _, _, _, _, _, _, _, _, _, _, _, _, _, _, _, _, _, _, _, _, _, _, _, _, _, .int .i64 (W (e9.lo + (invF x (l.take i)).2)), _, _, _, _, _, _, _, _, _, _, _, _, _, _, _, _, _, _, _, _, _, _, _, _], []⟩) rfl rfl rfl rfl rfl ?_
        refine E.op (v := .int .i64 (W (e9.lo + (invF x (l.take i)).2))) (fr1 := ⟨[_, _, _, _, _, _, _, _, _, _, _, _, _, _, _, _, _, _, _, _, _, _, _, _, _, _, _, _, _, _, _, _, _, _, _, _, _, _, _, _, _, _, _, _, _, _, _, _, _, _, .int .i64 (W (e9.lo + (invF x (l.take i)).2)), _, _, _, _, _, _, _, _, _, _, _, _, _, _, _, _, _, _, _, _, _, _, _], []⟩) rfl rfl rfl rfl rfl ?_
        refine E.op (v := .slice al l.length cl) (fr1 := ⟨[_, _, _, _, _, _, _, _, _, _, _, _, _, _, _, _, _, _, _, _, _, _, _, _, _, _, _, _, _, _, _, _, _, _, _, _, _, _, _, _, _, _, _, _, _, _, _, _, _, _, _, .slice al l.length cl, _, _, _, _, _, _, _, _, _, _, _, _, _, _, _, _, _, _, _, _, _, _], []⟩) rfl rfl rfl rfl rfl ?_
        refine E.op (v := .int .i64 ((i : Nat) : Int)) (fr1 := ⟨[_, _, _, _, _, _, _, _, _, _, _, _, _, _, _, _, _, _, _, _, _, _, _, _, _, _, _, _, _, _, _, _, _, _, _, _, _, _, _, _, _, _, _, _, _, _, _, _, _, _, _, _, .int .i64 ((i : Nat) : Int), _, _, _, _, _, _, _, _, _, _, _, _, _, _, _, _, _, _, _, _, _], []⟩) rfl rfl rfl rfl rfl ?_
        refine E.op (v := .pointer (some ⟨Nl, ol + i * 3, none⟩)) (fr1 := ⟨[_, _, _, _, _, _, _, _, _, _, _, _, _, _, _, _, _, _, _, _, _, _, _, _, _, _, _, _, _, _, _, _, _, _, _, _, _, _, _, _, _, _, _, _, _, _, _, _, _, _, _, _, _, .pointer (some ⟨Nl, ol + i * 3, none⟩), _, _, _, _, _, _, _, _, _, _, _, _, _, _, _, _, _, _, _, _], []⟩) rfl (p_ix (Sl.ix Hl rfl rfl he10 _)) rfl rfl rfl ?_
        refine E.op (v := .pointer (some ⟨Nl, ol + i * 3 + 2, none⟩)) (fr1 := ⟨[_, _, _, _, _, _, _, _, _, _, _, _, _, _, _, _, _, _, _, _, _, _, _, _, _, _, _, _, _, _, _, _, _, _, _, _, _, _, _, _, _, _, _, _, _, _, _, _, _, _, _, _, _, _, .pointer (some ⟨Nl, ol + i * 3 + 2, none⟩), _, _, _, _, _, _, _, _, _, _, _, _, _, _, _, _, _, _, _], []⟩) rfl rfl rfl rfl rfl ?_
        refine E.load (v := .string e9.tx) (fr1 := ⟨[_, _, _, _, _, _, _, _, _, _, _, _, _, _, _, _, _, _, _, _, _, _, _, _, _, _, _, _, _, _, _, _, _, _, _, _, _, _, _, _, _, _, _, _, _, _, _, _, _, _, _, _, _, _, _, .string e9.tx, _, _, _, _, _, _, _, _, _, _, _, _, _, _, _, _, _, _], []⟩) rfl rfl rfl (fun _ h => by cases h) (fun s1 hg => (p_load1 ⟨hg.trans ((Sl.row' (Hl.own hO13) he10)).get, ((Sl.row' (Hl.own hO13) he10)).lt⟩ rfl rfl rfl ((Hl.own hO13).at (j := 2) he10 rfl))) rfl ?_
        refine E.op (v := .int .i64 (((B e9.tx).length : Nat) : Int)) (fr1 := ⟨[_, _, _, _, _, _, _, _, _, _, _, _, _, _, _, _, _, _, _, _, _, _, _, _, _, _, _, _, _, _, _, _, _, _, _, _, _, _, _, _, _, _, _, _, _, _, _, _, _, _, _, _, _, _, _, _, .int .i64 (((B e9.tx).length : Nat) : Int), _, _, _, _, _, _, _, _, _, _, _, _, _, _, _, _, _], []⟩) rfl rfl rfl rfl rfl ?_
        refine E.op (v := .int .i64 (W (W (e9.lo + (invF x (l.take i)).2) + (((B e9.tx).length : Nat) : Int)))) (fr1 := ⟨[_, _, _, _, _, _, _, _, _, _, _, _, _, _, _, _, _, _, _, _, _, _, _, _, _, _, _, _, _, _, _, _, _, _, _, _, _, _, _, _, _, _, _, _, _, _, _, _, _, _, _, _, _, _, _, _, _, .int .i64 (W (W (e9.lo + (invF x (l.take i)).2) + (((B e9.tx).length : Nat) : Int))), _, _, _, _, _, _, _, _, _, _, _, _, _, _, _, _], []⟩) rfl (p_bin addW) rfl rfl rfl ?_
        refine E.op (v := .string x) (fr1 := ⟨[_, _, _, _, _, _, _, _, _, _, _, _, _, _, _, _, _, _, _, _, _, _, _, _, _, _, _, _, _, _, _, _, _, _, _, _, _, _, _, _, _, _, _, _, _, _, _, _, _, _, _, _, _, _, _, _, _, _, .string x, _, _, _, _, _, _, _, _, _, _, _, _, _, _, _], []⟩) rfl rfl rfl rfl rfl ?_
        refine E.op (v := .slice al l.length cl) (fr1 := ⟨[_, _, _, _, _, _, _, _, _, _, _, _, _, _, _, _, _, _, _, _, _, _, _, _, _, _, _, _, _, _, _, _, _, _, _, _, _, _, _, _, _, _, _, _, _, _, _, _, _, _, _, _, _, _, _, _, _, _, _, .slice al l.length cl, _, _, _, _, _, _, _, _, _, _, _, _, _, _], []⟩) rfl rfl rfl rfl rfl ?_
        refine E.op (v := .int .i64 ((i : Nat) : Int)) (fr1 := ⟨[_, _, _, _, _, _, _, _, _, _, _, _, _, _, _, _, _, _, _, _, _, _, _, _, _, _, _, _, _, _, _, _, _, _, _, _, _, _, _, _, _, _, _, _, _, _, _, _, _, _, _, _, _, _, _, _, _, _, _, _, .int .i64 ((i : Nat) : Int), _, _, _, _, _, _, _, _, _, _, _, _, _], []⟩) rfl rfl rfl rfl rfl ?_
        refine E.op (v := .pointer (some ⟨Nl, ol + i * 3, none⟩)) (fr1 := ⟨[_, _, _, _, _, _, _, _, _, _, _, _, _, _, _, _, _, _, _, _, _, _, _, _, _, _, _, _, _, _, _, _, _, _, _, _, _, _, _, _, _, _, _, _, _, _, _, _, _, _, _, _, _, _, _, _, _, _, _, _, _, .pointer (some ⟨Nl, ol + i * 3, none⟩), _, _, _, _, _, _, _, _, _, _, _, _], []⟩) rfl (p_ix (Sl.ix Hl rfl rfl he10 _)) rfl rfl rfl ?_
        refine E.op (v := .pointer (some ⟨Nl, ol + i * 3 + 0, none⟩)) (fr1 := ⟨[_, _, _, _, _, _, _, _, _, _, _, _, _, _, _, _, _, _, _, _, _, _, _, _, _, _, _, _, _, _, _, _, _, _, _, _, _, _, _, _, _, _, _, _, _, _, _, _, _, _, _, _, _, _, _, _, _, _, _, _, _, _, .pointer (some ⟨Nl, ol + i * 3 + 0, none⟩), _, _, _, _, _, _, _, _, _, _, _], []⟩) rfl rfl rfl rfl rfl ?_
        refine E.load (v := .int .i64 e9.lo) (fr1 := ⟨[_, _, _, _, _, _, _, _, _, _, _, _, _, _, _, _, _, _, _, _, _, _, _, _, _, _, _, _, _, _, _, _, _, _, _, _, _, _, _, _, _, _, _, _, _, _, _, _, _, _, _, _, _, _, _, _, _, _, _, _, _, _, _, .int .i64 e9.lo, _, _, _, _, _, _, _, _, _, _], []⟩) rfl rfl rfl (fun _ h => by cases h) (fun s1 hg => (p_load1 ⟨hg.trans ((Sl.row' (Hl.own hO13) he10)).get, ((Sl.row' (Hl.own hO13) he10)).lt⟩ rfl rfl rfl ((Hl.own hO13).at (j := 0) he10 rfl))) rfl ?_
        refine E.op (v := .slice al l.length cl) (fr1 := ⟨[_, _, _, _, _, _, _, _, _, _, _, _, _, _, _, _, _, _, _, _, _, _, _, _, _, _, _, _, _, _, _, _, _, _, _, _, _, _, _, _, _, _, _, _, _, _, _, _, _, _, _, _, _, _, _, _, _, _, _, _, _, _, _, _, .slice al l.length cl, _, _, _, _, _, _, _, _, _], []⟩) rfl rfl rfl rfl rfl ?_
        refine E.op (v := .int .i64 ((i : Nat) : Int)) (fr1 := ⟨[_, _, _, _, _, _, _, _, _, _, _, _, _, _, _, _, _, _, _, _, _, _, _, _, _, _, _, _, _, _, _, _, _, _, _, _, _, _, _, _, _, _, _, _, _, _, _, _, _, _, _, _, _, _, _, _, _, _, _, _, _, _, _, _, _, .int .i64 ((i : Nat) : Int), _, _, _, _, _, _, _, _], []⟩) rfl rfl rfl rfl rfl ?_
        refine E.op (v := .pointer (some ⟨Nl, ol + i * 3, none⟩)) (fr1 := ⟨[_, _, _, _, _, _, _, _, _, _, _, _, _, _, _, _, _, _, _, _, _, _, _, _, _, _, _, _, _, _, _, _, _, _, _, _, _, _, _, _, _, _, _, _, _, _, _, _, _, _, _, _, _, _, _, _, _, _, _, _, _, _, _, _, _, _, .pointer (some ⟨Nl, ol + i * 3, none⟩), _, _, _, _, _, _, _], []⟩) rfl (p_ix (Sl.ix Hl rfl rfl he10 _)) rfl rfl rfl ?_
        refine E.op (v := .pointer (some ⟨Nl, ol + i * 3 + 1, none⟩)) (fr1 := ⟨[_, _, _, _, _, _, _, _, _, _, _, _, _, _, _, _, _, _, _, _, _, _, _, _, _, _, _, _, _, _, _, _, _, _, _, _, _, _, _, _, _, _, _, _, _, _, _, _, _, _, _, _, _, _, _, _, _, _, _, _, _, _, _, _, _, _, _, .pointer (some ⟨Nl, ol + i * 3 + 1, none⟩), _, _, _, _, _, _], []⟩) rfl rfl rfl rfl rfl ?_
        refine E.load (v := .int .i64 e9.hi) (fr1 := ⟨[_, _, _, _, _, _, _, _, _, _, _, _, _, _, _, _, _, _, _, _, _, _, _, _, _, _, _, _, _, _, _, _, _, _, _, _, _, _, _, _, _, _, _, _, _, _, _, _, _, _, _, _, _, _, _, _, _, _, _, _, _, _, _, _, _, _, _, _, .int .i64 e9.hi, _, _, _, _, _], []⟩) rfl rfl rfl (fun _ h => by cases h) (fun s1 hg => (p_load1 ⟨hg.trans ((Sl.row' (Hl.own hO13) he10)).get, ((Sl.row' (Hl.own hO13) he10)).lt⟩ rfl rfl rfl ((Hl.own hO13).at (j := 1) he10 rfl))) rfl ?_
        have hW := (hR.2 i (by omega) _ he10).1
        refine E.op (v := .string (sub x e9.lo.toNat e9.hi.toNat)) (fr1 := ⟨[_, _, _, _, _, _, _, _, _, _, _, _, _, _, _, _, _, _, _, _, _, _, _, _, _, _, _, _, _, _, _, _, _, _, _, _, _, _, _, _, _, _, _, _, _, _, _, _, _, _, _, _, _, _, _, _, _, _, _, _, _, _, _, _, _, _, _, _, _, .string (sub x e9.lo.toNat e9.hi.toNat), _, _, _, _], []⟩) rfl (p_sub rfl rfl rfl rfl (by omega) (by omega) (by omega)) rfl rfl rfl ?_
        refine E.op (v := .agg ⟨[.int .i64 (W (e9.lo + (invF x (l.take i)).2)), .int .i64 (W (W (e9.lo + (invF x (l.take i)).2) + (((B e9.tx).length : Nat) : Int))), .string (sub x e9.lo.toNat e9.hi.toNat)]⟩) (fr1 := ⟨[_, _, _, _, _, _, _, _, _, _, _, _, _, _, _, _, _, _, _, _, _, _, _, _, _, _, _, _, _, _, _, _, _, _, _, _, _, _, _, _, _, _, _, _, _, _, _, _, _, _, _, _, _, _, _, _, _, _, _, _, _, _, _, _, _, _, _, _, _, _, .agg ⟨[.int .i64 (W (e9.lo + (invF x (l.take i)).2)), .int .i64 (W (W (e9.lo + (invF x (l.take i)).2) + (((B e9.tx).length : Nat) : Int))), .string (sub x e9.lo.toNat e9.hi.toNat)]⟩, _, _, _], []⟩) rfl rfl rfl rfl rfl ?_
        obtain ⟨N31, hN32⟩ : ∃ N, N = s12.next := ⟨_, rfl⟩
        have hb33 : s4.next ≤ N31 := hN32 ▸ hE15.next
        have hb34 : s12.next ≤ N31 := hN32 ▸ (Own.refl s12).next
        refine E.newS (N := N31) (vF := fun N => .slice (some ⟨N, 0, none⟩) 1 1) (vs := [.int .i64 (W (e9.lo + (invF x (l.take i)).2)), .int .i64 (W (W (e9.lo + (invF x (l.take i)).2) + (((B e9.tx).length : Nat) : Int))), .string (sub x e9.lo.toNat e9.hi.toNat)]) (fr1 := ⟨[_, _, _, _, _, _, _, _, _, _, _, _, _, _, _, _, _, _, _, _, _, _, _, _, _, _, _, _, _, _, _, _, _, _, _, _, _, _, _, _, _, _, _, _, _, _, _, _, _, _, _, _, _, _, _, _, _, _, _, _, _, _, _, _, _, _, _, _, _, _, _, .slice (some ⟨N31, 0, none⟩) 1 1, _, _], []⟩) hO13 hN32 rfl rfl (p_bs rfl rfl zero97 rfl (by decide) rfl rfl) rfl rfl rfl ?_
        intro s35 hO36 hS37 r38 hB39
        have hE40 := hE15.trans hS37
        have hE41 := (Own.refl s12).trans hS37
        refine E.append (c := Ed.cells) (l := ((invF x (l.take i)).1)) (x := ⟨W (e9.lo + (invF x (l.take i)).2), W (W (e9.lo + (invF x (l.take i)).2) + (((B e9.tx).length : Nat) : Int)), sub x e9.lo.toNat e9.hi.toNat⟩) (fF := fun v42 => ⟨[_, _, _, _, _, _, _, _, _, _, _, _, _, _, _, _, _, _, _, _, _, _, _, _, _, _, _, _, _, _, _, _, _, _, _, _, _, _, _, _, _, _, _, _, _, _, _, _, _, _, _, _, _, _, _, _, _, _, _, _, _, _, _, _, _, _, _, _, _, _, _, _, v42, _], []⟩) app22 (fun _ => rfl) (by exact Ed.one) hO36 hE40 hol7 r38 rfl rfl rfl rfl rfl (by decide) (by omega) (by omega) (fun _ => rfl) ?_
        intro v42 s43 hO44 hnx45 hu46 hol47
        have r48 : Row s43.t s43.next _ _ _ _ := ⟨(hu46 _ hb33 r38.lt).trans r38.get, Nat.lt_of_lt_of_le r38.lt hnx45⟩
        refine F.op (v := v42) (fr1 := ⟨[_, _, _, _, _, _, _, _, v42, _, _, _, _, _, _, _, _, _, _, _, _, _, _, _, _, _, _, _, _, _, _, _, _, _, _, _, _, _, _, _, _, _, _, _, _, _, _, _, _, _, _, _, _, _, _, _, _, _, _, _, _, _, _, _, _, _, _, _, _, _, _, _, _, _], []⟩) rfl rfl rfl rfl rfl ?_
        refine F.nil ?_
        refine Ends.region ?_
        refine W.op (v := .int .i64 ((i : Nat) : Int)) (fr1 := ⟨[_, _, _, _, _, _, _, _, _, _, _, _, _, _, _, _, _, _, _, _, _, _, _, _, .int .i64 ((i : Nat) : Int), _, _, _, _, _, _, _, _, _, _, _, _, _, _, _, _, _, _, _, _, _, _, _, _, _, _, _, _, _, _, _, _, _, _, _, _, _, _, _, _, _, _, _, _, _, _, _, _, _], []⟩) rfl rfl rfl rfl ?_
        refine W.op (v := .int .i64 ((i + 1 : Nat) : Int)) (fr1 := ⟨[_, _, _, _, _, _, _, _, _, _, _, _, _, _, _, _, _, _, _, _, _, _, _, _, _, .int .i64 ((i + 1 : Nat) : Int), _, _, _, _, _, _, _, _, _, _, _, _, _, _, _, _, _, _, _, _, _, _, _, _, _, _, _, _, _, _, _, _, _, _, _, _, _, _, _, _, _, _, _, _, _, _, _, _], []⟩) rfl (p_bin (addI (by omega) (by omega) (by omega))) rfl rfl ?_
        refine W.op (v := .int .i64 ((i + 1 : Nat) : Int)) (fr1 := ⟨[_, _, _, _, _, _, _, _, _, .int .i64 ((i + 1 : Nat) : Int), _, _, _, _, _, _, _, _, _, _, _, _, _, _, _, _, _, _, _, _, _, _, _, _, _, _, _, _, _, _, _, _, _, _, _, _, _, _, _, _, _, _, _, _, _, _, _, _, _, _, _, _, _, _, _, _, _, _, _, _, _, _, _, _], []⟩) rfl rfl rfl rfl ?_
        refine EndsOps.nil ?_
        exact ⟨_, (by omega), i + 1, v42, _, _, _, _, _, _, _, _, _, _, _, _, _, _, _, _, _, _, _, _, _, _, _, _, _, _, _, _, _, _, _, _, _, _, _, _, _, _, _, _, _, _, _, _, _, _, _, _, _, _, _, _, _, _, _, _, rfl, hO44, rfl, (by rw [invF_step he10]; exact hol47), by omega, NoTwin.step hN (inv_at he10) (inv_old (by omega) (by omega) he29) (by omega) h30⟩
    · skip
      refine W.op (v := .bool false) (fr1 := ⟨[_, _, _, _, _, _, _, _, _, _, _, _, _, _, _, _, _, _, _, _, _, _, _, _, _, _, _, _, _, _, _, _, _, _, _, _, _, .bool false, _, _, _, _, _, _, _, _, _, _, _, _, _, _, _, _, _, _, _, _, _, _, _, _, _, _, _, _, _, _, _, _, _, _, _, _], []⟩) rfl (p_bin (gtF h16)) rfl rfl ?_
      refine W.op (v := .bool false) (fr1 := ⟨[_, _, _, _, _, _, _, _, _, _, _, _, _, _, _, _, _, _, _, _, _, _, _, _, _, _, _, _, _, _, _, _, _, _, _, _, _, _, .bool false, _, _, _, _, _, _, _, _, _, _, _, _, _, _, _, _, _, _, _, _, _, _, _, _, _, _, _, _, _, _, _, _, _, _, _], []⟩) rfl rfl rfl rfl ?_
      refine W.skip (fr1 := ⟨[_, _, _, _, _, _, _, _, _, _, _, _, _, _, _, _, _, _, _, _, _, _, _, _, _, _, _, _, _, _, _, _, _, _, _, _, _, _, _, undef, _, _, _, _, _, _, _, _, _, _, _, _, _, _, _, _, _, _, _, _, _, _, _, _, _, _, _, _, _, _, _, _, _, _], []⟩) rfl rfl ?_
      refine W.skip (fr1 := ⟨[_, _, _, _, _, _, _, _, _, _, _, _, _, _, _, _, _, _, _, _, _, _, _, _, _, _, _, _, _, _, _, _, _, _, _, _, _, _, _, _, undef, _, _, _, _, _, _, _, _, _, _, _, _, _, _, _, _, _, _, _, _, _, _, _, _, _, _, _, _, _, _, _, _, _], []⟩) rfl rfl ?_
      refine W.skip (fr1 := ⟨[_, _, _, _, _, _, _, _, _, _, _, _, _, _, _, _, _, _, _, _, _, _, _, _, _, _, _, _, _, _, _, _, _, _, _, _, _, _, _, _, _, undef, _, _, _, _, _, _, _, _, _, _, _, _, _, _, _, _, _, _, _, _, _, _, _, _, _, _, _, _, _, _, _, _], []⟩) rfl rfl ?_
      refine W.skip (fr1 := ⟨[_, _, _, _, _, _, _, _, _, _, _, _, _, _, _, _, _, _, _, _, _, _, _, _, _, _, _, _, _, _, _, _, _, _, _, _, _, _, _, _, _, _, undef, _, _, _, _, _, _, _, _, _, _, _, _, _, _, _, _, _, _, _, _, _, _, _, _, _, _, _, _, _, _, _], []⟩) rfl rfl ?_
      refine W.skip (fr1 := ⟨[_, _, _, _, _, _, _, _, _, _, _, _, _, _, _, _, _, _, _, _, _, _, _, _, _, _, _, _, _, _, _, _, _, _, _, _, _, _, _, _, _, _, _, undef, _, _, _, _, _, _, _, _, _, _, _, _, _, _, _, _, _, _, _, _, _, _, _, _, _, _, _, _, _, _], []⟩) rfl rfl ?_
      refine W.skip (fr1 := ⟨[_, _, _, _, _, _, _, _, _, _, _, _, _, _, _, _, _, _, _, _, _, _, _, _, _, _, _, _, _, _, _, _, _, _, _, _, _, _, _, _, _, _, _, _, undef, _, _, _, _, _, _, _, _, _, _, _, _, _, _, _, _, _, _, _, _, _, _, _, _, _, _, _, _, _], []⟩) rfl rfl ?_
      refine W.skip (fr1 := ⟨[_, _, _, _, _, _, _, _, _, _, _, _, _, _, _, _, _, _, _, _, _, _, _, _, _, _, _, _, _, _, _, _, _, _, _, _, _, _, _, _, _, _, _, _, _, undef, _, _, _, _, _, _, _, _, _, _, _, _, _, _, _, _, _, _, _, _, _, _, _, _, _, _, _, _], []⟩) rfl rfl ?_
      refine W.skip (fr1 := ⟨[_, _, _, _, _, _, _, _, _, _, _, _, _, _, _, _, _, _, _, _, _, _, _, _, _, _, _, _, _, _, _, _, _, _, _, _, _, _, _, _, _, _, _, _, _, _, undef, _, _, _, _, _, _, _, _, _, _, _, _, _, _, _, _, _, _, _, _, _, _, _, _, _, _, _], []⟩) rfl rfl ?_
      refine W.op (v := .bool false) (fr1 := ⟨[_, _, _, _, _, _, _, _, _, _, _, _, _, _, _, _, _, _, _, _, _, _, _, _, _, _, _, _, _, _, _, _, _, _, _, _, _, _, _, _, _, _, _, _, _, _, _, .bool false, _, _, _, _, _, _, _, _, _, _, _, _, _, _, _, _, _, _, _, _, _, _, _, _, _, _], []⟩) rfl rfl rfl rfl ?_
      refine EndsOps.nil ?_
      refine Ends.condF rfl ?_
      refine Ends.skip ?_
      refine Ends.drawE (bef := [0, 0, 0, 0, 0, 24, 56, 120, 248, 508, 0, 0, 0, 6144, 14336, 30720, 0, 0, 196608, 458752, 983040, 2096128, 4194302, 8388606, 16777215, 33554431]) (by kernel_rfl) ?_
      refine E.op (v := v) (fr1 := ⟨[_, _, _, _, _, _, _, _, _, _, _, _, _, _, _, _, _, _, _, _, _, _, _, _, _, _, _, _, _, _, _, _, _, _, _, _, _, _, _, _, _, _, _, _, _, _, _, _, v, _, _, _, _, _, _, _, _, _, _, _, _, _, _, _, _, _, _, _, _, _, _, _, _, _], []⟩) rfl rfl rfl rfl rfl ?_
      refine E.op (v := .int .i64 (W (e9.lo + (invF x (l.take i)).2))) (fr1 := ⟨[_, _, _, _, _, _, _, _, _, _, _, _, _, _, _, _, _, _, _, _, _, _, _, _, _, _, _, _, _, _, _, _, _, _, _, _, _, _, _, _, _, _, _, _, _, _, _, _, _, .int .i64 (W (e9.lo + (invF x (l.take i)).2)), _, _, _, _, _, _, _, _, _, _, _, _, _, _, _, _, _, _, _, _, _, _, _, _], []⟩) rfl rfl rfl rfl rfl ?_
      refine E.op (v := .int .i64 (W (e9.lo + (invF x (l.take i)).2))) (fr1 := ⟨[_, _, _, _, _, _, _, _, _, _, _, _, _, _, _, _, _, _, _, _, _, _, _, _, _, _, _, _, _, _, _, _, _, _, _, _, _, _, _, _, _, _, _, _, _, _, _, _, _, _, .int .i64 (W (e9.lo + (invF x (l.take i)).2)), _, _, _, _, _, _, _, _, _, _, _, _, _, _, _, _, _, _, _, _, _, _, _], []⟩) rfl rfl rfl rfl rfl ?_
      refine E.op (v := .slice al l.length cl) (fr1 := ⟨[_, _, _, _, _, _, _, _, _, _, _, _, _, _, _, _, _, _, _, _, _, _, _, _, _, _, _, _, _, _, _, _, _, _, _, _, _, _, _, _, _, _, _, _, _, _, _, _, _, _, _, .slice al l.length cl, _, _, _, _, _, _, _, _, _, _, _, _, _, _, _, _, _, _, _, _, _, _], []⟩) rfl rfl rfl rfl rfl ?_
      refine E.op (v := .int .i64 ((i : Nat) : Int)) (fr1 := ⟨[_, _, _, _, _, _, _, _, _, _, _, _, _, _, _, _, _, _, _, _, _, _, _, _, _, _, _, _, _, _, _, _, _, _, _, _, _, _, _, _, _, _, _, _, _, _, _, _, _, _, _, _, .int .i64 ((i : Nat) : Int), _, _, _, _, _, _, _, _, _, _, _, _, _, _, _, _, _, _, _, _, _], []⟩) rfl rfl rfl rfl rfl ?_
      refine E.op (v := .pointer (some ⟨Nl, ol + i * 3, none⟩)) (fr1 := ⟨[_, _, _, _, _, _, _, _, _, _, _, _, _, _, _, _, _, _, _, _, _, _, _, _, _, _, _, _, _, _, _, _, _, _, _, _, _, _, _, _, _, _, _, _, _, _, _, _, _, _, _, _, _, .pointer (some ⟨Nl, ol + i * 3, none⟩), _, _, _, _, _, _, _, _, _, _, _, _, _, _, _, _, _, _, _, _], []⟩) rfl (p_ix (Sl.ix Hl rfl rfl he10 _)) rfl rfl rfl ?_
      refine E.op (v := .pointer (some ⟨Nl, ol + i * 3 + 2, none⟩)) (fr1 := ⟨[_, _, _, _, _, _, _, _, _, _, _, _, _, _, _, _, _, _, _, _, _, _, _, _, _, _, _, _, _, _, _, _, _, _, _, _, _, _, _, _, _, _, _, _, _, _, _, _, _, _, _, _, _, _, .pointer (some ⟨Nl, ol + i * 3 + 2, none⟩), _, _, _, _, _, _, _, _, _, _, _, _, _, _, _, _, _, _, _], []⟩) rfl rfl rfl rfl rfl ?_
      refine E.load (v := .string e9.tx) (fr1 := ⟨[_, _, _, _, _, _, _, _, _, _, _, _, _, _, _, _, _, _, _, _, _, _, _, _, _, _, _, _, _, _, _, _, _, _, _, _, _, _, _, _, _, _, _, _, _, _, _, _, _, _, _, _, _, _, _, .string e9.tx, _, _, _, _, _, _, _, _, _, _, _, _, _, _, _, _, _, _], []⟩) rfl rfl rfl (fun _ h => by cases h) (fun s1 hg => (p_load1 ⟨hg.trans ((Sl.row' (Hl.own hO13) he10)).get, ((Sl.row' (Hl.own hO13) he10)).lt⟩ rfl rfl rfl ((Hl.own hO13).at (j := 2) he10 rfl))) rfl ?_
      refine E.op (v := .int .i64 (((B e9.tx).length : Nat) : Int)) (fr1 := ⟨[_, _, _, _, _, _, _, _, _, _, _, _, _, _, _, _, _, _, _, _, _, _, _, _, _, _, _, _, _, _, _, _, _, _, _, _, _, _, _, _, _, _, _, _, _, _, _, _, _, _, _, _, _, _, _, _, .int .i64 (((B e9.tx).length : Nat) : Int), _, _, _, _, _, _, _, _, _, _, _, _, _, _, _, _, _], []⟩) rfl rfl rfl rfl rfl ?_
      refine E.op (v := .int .i64 (W (W (e9.lo + (invF x (l.take i)).2) + (((B e9.tx).length : Nat) : Int)))) (fr1 := ⟨[_, _, _, _, _, _, _, _, _, _, _, _, _, _, _, _, _, _, _, _, _, _, _, _, _, _, _, _, _, _, _, _, _, _, _, _, _, _, _, _, _, _, _, _, _, _, _, _, _, _, _, _, _, _, _, _, _, .int .i64 (W (W (e9.lo + (invF x (l.take i)).2) + (((B e9.tx).length : Nat) : Int))), _, _, _, _, _, _, _, _, _, _, _, _, _, _, _, _], []⟩) rfl (p_bin addW) rfl rfl rfl ?_
      refine E.op (v := .string x) (fr1 := ⟨[_, _, _, _, _, _, _, _, _, _, _, _, _, _, _, _, _, _, _, _, _, _, _, _, _, _, _, _, _, _, _, _, _, _, _, _, _, _, _, _, _, _, _, _, _, _, _, _, _, _, _, _, _, _, _, _, _, _, .string x, _, _, _, _, _, _, _, _, _, _, _, _, _, _, _], []⟩) rfl rfl rfl rfl rfl ?_
      refine E.op (v := .slice al l.length cl) (fr1 := ⟨[_, _, _, _, _, _, _, _, _, _, _, _, _, _, _, _, _, _, _, _, _, _, _, _, _, _, _, _, _, _, _, _, _, _, _, _, _, _, _, _, _, _, _, _, _, _, _, _, _, _, _, _, _, _, _, _, _, _, _, .slice al l.length cl, _, _, _, _, _, _, _, _, _, _, _, _, _, _], []⟩) rfl rfl rfl rfl rfl ?_
      refine E.op (v := .int .i64 ((i : Nat) : Int)) (fr1 := ⟨[_, _, _, _, _, _, _, _, _, _, _, _, _, _, _, _, _, _, _, _, _, _, _, _, _, _, _, _, _, _, _, _, _, _, _, _, _, _, _, _, _, _, _, _, _, _, _, _, _, _, _, _, _, _, _, _, _, _, _, _, .int .i64 ((i : Nat) : Int), _, _, _, _, _, _, _, _, _, _, _, _, _], []⟩) rfl rfl rfl rfl rfl ?_
      refine E.op (v := .pointer (some ⟨Nl, ol + i * 3, none⟩)) (fr1 := ⟨[_, _, _, _, _, _, _, _, _, _, _, _, _, _, _, _, _, _, _, _, _, _, _, _, _, _, _, _, _, _, _, _, _, _, _, _, _, _, _, _, _, _, _, _, _, _, _, _, _, _, _, _, _, _, _, _, _, _, _, _, _, .pointer (some ⟨Nl, ol + i * 3, none⟩), _, _, _, _, _, _, _, _, _, _, _, _], []⟩) rfl (p_ix (Sl.ix Hl rfl rfl he10 _)) rfl rfl rfl ?_
      refine E.op (v := .pointer (some ⟨Nl, ol + i * 3 + 0, none⟩)) (fr1 := ⟨[_, _, _, _, _, _, _, _, _, _, _, _, _, _, _, _, _, _, _, _, _, _, _, _, _, _, _, _, _, _, _, _, _, _, _, _, _, _, _, _, _, _, _, _, _, _, _, _, _, _, _, _, _, _, _, _, _, _, _, _, _, _, .pointer (some ⟨Nl, ol + i * 3 + 0, none⟩), _, _, _, _, _, _, _, _, _, _, _], []⟩) rfl rfl rfl rfl rfl ?_
      refine E.load (v := .int .i64 e9.lo) (fr1 := ⟨[_, _, _, _, _, _, _, _, _, _, _, _, _, _, _, _, _, _, _, _, _, _, _, _, _, _, _, _, _, _, _, _, _, _, _, _, _, _, _, _, _, _, _, _, _, _, _, _, _, _, _, _, _, _, _, _, _, _, _, _, _, _, _, .int .i64 e9.lo, _, _, _, _, _, _, _, _, _, _], []⟩) rfl rfl rfl (fun _ h => by cases h) (fun s1 hg => (p_load1 ⟨hg.trans ((Sl.row' (Hl.own hO13) he10)).get, ((Sl.row' (Hl.own hO13) he10)).lt⟩ rfl rfl rfl ((Hl.own hO13).at (j := 0) he10 rfl))) rfl ?_
      refine E.op (v := .slice al l.length cl) (fr1 := ⟨[_, _, _, _, _, _, _, _, _, _, _, _, _, _, _, _, _, _, _, _, _, _, _, _, _, _, _, _, _, _, _, _, _, _, _, _, _, _, _, _, _, _, _, _, _, _, _, _, _, _, _, _, _, _, _, _, _, _, _, _, _, _, _, _, .slice al l.length cl, _, _, _, _, _, _, _, _, _], []⟩) rfl rfl rfl rfl rfl ?_
      refine E.op (v := .int .i64 ((i : Nat) : Int)) (fr1 := ⟨[_, _, _, _, _, _, _, _, _, _, _, _, _, _, _, _, _, _, _, _, _, _, _, _, _, _, _, _, _, _, _, _, _, _, _, _, _, _, _, _, _, _, _, _, _, _, _, _, _, _, _, _, _, _, _, _, _, _, _, _, _, _, _, _, _, .int .i64 ((i : Nat) : Int), _, _, _, _, _, _, _, _], []⟩) rfl rfl rfl rfl rfl ?_
      refine E.op (v := .pointer (some ⟨Nl, ol + i * 3, none⟩)) (fr1 := ⟨[_, _, _, _, _, _, _, _, _, _, _, _, _, _, _, _, _, _, _, _, _, _, _, _, _, _, _, _, _, _, _, _, _, _, _, _, _, _, _, _, _, _, _, _, _, _, _, _, _, _, _, _, _, _, _, _, _, _, _, _, _, _, _, _, _, _, .pointer (some ⟨Nl, ol + i * 3, none⟩), _, _, _, _, _, _, _], []⟩) rfl (p_ix (Sl.ix Hl rfl rfl he10 _)) rfl rfl rfl ?_
      refine E.op (v := .pointer (some ⟨Nl, ol + i * 3 + 1, none⟩)) (fr1 := ⟨[_, _, _, _, _, _, _, _, _, _, _, _, _, _, _, _, _, _, _, _, _, _, _, _, _, _, _, _, _, _, _, _, _, _, _, _, _, _, _, _, _, _, _, _, _, _, _, _, _, _, _, _, _, _, _, _, _, _, _, _, _, _, _, _, _, _, _, .pointer (some ⟨Nl, ol + i * 3 + 1, none⟩), _, _, _, _, _, _], []⟩) rfl rfl rfl rfl rfl ?_
      refine E.load (v := .int .i64 e9.hi) (fr1 := ⟨[_, _, _, _, _, _, _, _, _, _, _, _, _, _, _, _, _, _, _, _, _, _, _, _, _, _, _, _, _, _, _, _, _, _, _, _, _, _, _, _, _, _, _, _, _, _, _, _, _, _, _, _, _, _, _, _, _, _, _, _, _, _, _, _, _, _, _, _, .int .i64 e9.hi, _, _, _, _, _], []⟩) rfl rfl rfl (fun _ h => by cases h) (fun s1 hg => (p_load1 ⟨hg.trans ((Sl.row' (Hl.own hO13) he10)).get, ((Sl.row' (Hl.own hO13) he10)).lt⟩ rfl rfl rfl ((Hl.own hO13).at (j := 1) he10 rfl))) rfl ?_
      have hW := (hR.2 i (by omega) _ he10).1
      refine E.op (v := .string (sub x e9.lo.toNat e9.hi.toNat)) (fr1 := ⟨[_, _, _, _, _, _, _, _, _, _, _, _, _, _, _, _, _, _, _, _, _, _, _, _, _, _, _, _, _, _, _, _, _, _, _, _, _, _, _, _, _, _, _, _, _, _, _, _, _, _, _, _, _, _, _, _, _, _, _, _, _, _, _, _, _, _, _, _, _, .string (sub x e9.lo.toNat e9.hi.toNat), _, _, _, _], []⟩) rfl (p_sub rfl rfl rfl rfl (by omega) (by omega) (by omega)) rfl rfl rfl ?_
      refine E.op (v := .agg ⟨[.int .i64 (W (e9.lo + (invF x (l.take i)).2)), .int .i64 (W (W (e9.lo + (invF x (l.take i)).2) + (((B e9.tx).length : Nat) : Int))), .string (sub x e9.lo.toNat e9.hi.toNat)]⟩) (fr1 := ⟨[_, _, _, _, _, _, _, _, _, _, _, _, _, _, _, _, _, _, _, _, _, _, _, _, _, _, _, _, _, _, _, _, _, _, _, _, _, _, _, _, _, _, _, _, _, _, _, _, _, _, _, _, _, _, _, _, _, _, _, _, _, _, _, _, _, _, _, _, _, _, .agg ⟨[.int .i64 (W (e9.lo + (invF x (l.take i)).2)), .int .i64 (W (W (e9.lo + (invF x (l.take i)).2) + (((B e9.tx).length : Nat) : Int))), .string (sub x e9.lo.toNat e9.hi.toNat)]⟩, _, _, _], []⟩) rfl rfl rfl rfl rfl ?_
      obtain ⟨N49, hN50⟩ : ∃ N, N = s12.next := ⟨_, rfl⟩
      have hb51 : s4.next ≤ N49 := hN50 ▸ hE15.next
      refine E.newS (N := N49) (vF := fun N => .slice (some ⟨N, 0, none⟩) 1 1) (vs := [.int .i64 (W (e9.lo + (invF x (l.take i)).2)), .int .i64 (W (W (e9.lo + (invF x (l.take i)).2) + (((B e9.tx).length : Nat) : Int))), .string (sub x e9.lo.toNat e9.hi.toNat)]) (fr1 := ⟨[_, _, _, _, _, _, _, _, _, _, _, _, _, _, _, _, _, _, _, _, _, _, _, _, _, _, _, _, _, _, _, _, _, _, _, _, _, _, _, _, _, _, _, _, _, _, _, _, _, _, _, _, _, _, _, _, _, _, _, _, _, _, _, _, _, _, _, _, _, _, _, .slice (some ⟨N49, 0, none⟩) 1 1, _, _], []⟩) hO13 hN50 rfl rfl (p_bs rfl rfl zero97 rfl (by decide) rfl rfl) rfl rfl rfl ?_
      intro s52 hO53 hS54 r55 hB56
      have hE57 := hE15.trans hS54
      refine E.append (c := Ed.cells) (l := ((invF x (l.take i)).1)) (x := ⟨W (e9.lo + (invF x (l.take i)).2), W (W (e9.lo + (invF x (l.take i)).2) + (((B e9.tx).length : Nat) : Int)), sub x e9.lo.toNat e9.hi.toNat⟩) (fF := fun v58 => ⟨[_, _, _, _, _, _, _, _, _, _, _, _, _, _, _, _, _, _, _, _, _, _, _, _, _, _, _, _, _, _, _, _, _, _, _, _, _, _, _, _, _, _, _, _, _, _, _, _, _, _, _, _, _, _, _, _, _, _, _, _, _, _, _, _, _, _, _, _, _, _, _, _, v58, _], []⟩) app22 (fun _ => rfl) (by exact Ed.one) hO53 hE57 hol7 r55 rfl rfl rfl rfl rfl (by decide) (by omega) (by omega) (fun _ => rfl) ?_
      intro v58 s59 hO60 hnx61 hu62 hol63
      have r64 : Row s59.t s59.next _ _ _ _ := ⟨(hu62 _ hb51 r55.lt).trans r55.get, Nat.lt_of_lt_of_le r55.lt hnx61⟩
      refine F.op (v := v58) (fr1 := ⟨[_, _, _, _, _, _, _, _, v58, _, _, _, _, _, _, _, _, _, _, _, _, _, _, _, _, _, _, _, _, _, _, _, _, _, _, _, _, _, _, _, _, _, _, _, _, _, _, _, _, _, _, _, _, _, _, _, _, _, _, _, _, _, _, _, _, _, _, _, _, _, _, _, _, _], []⟩) rfl rfl rfl rfl rfl ?_
      refine F.nil ?_
      refine Ends.region ?_
      refine W.op (v := .int .i64 ((i : Nat) : Int)) (fr1 := ⟨[_, _, _, _, _, _, _, _, _, _, _, _, _, _, _, _, _, _, _, _, _, _, _, _, .int .i64 ((i : Nat) : Int), _, _, _, _, _, _, _, _, _, _, _, _, _, _, _, _, _, _, _, _, _, _, _, _, _, _, _, _, _, _, _, _, _, _, _, _, _, _, _, _, _, _, _, _, _, _, _, _, _], []⟩) rfl rfl rfl rfl ?_
      refine W.op (v := .int .i64 ((i + 1 : Nat) : Int)) (fr1 := ⟨[_, _, _, _, _, _, _, _, _, _, _, _, _, _, _, _, _, _, _, _, _, _, _, _, _, .int .i64 ((i + 1 : Nat) : Int), _, _, _, _, _, _, _, _, _, _, _, _, _, _, _, _, _, _, _, _, _, _, _, _, _, _, _, _, _, _, _, _, _, _, _, _, _, _, _, _, _, _, _, _, _, _, _, _], []⟩) rfl (p_bin (addI (by omega) (by omega) (by omega))) rfl rfl ?_
      refine W.op (v := .int .i64 ((i + 1 : Nat) : Int)) (fr1 := ⟨[_, _, _, _, _, _, _, _, _, .int .i64 ((i + 1 : Nat) : Int), _, _, _, _, _, _, _, _, _, _, _, _, _, _, _, _, _, _, _, _, _, _, _, _, _, _, _, _, _, _, _, _, _, _, _, _, _, _, _, _, _, _, _, _, _, _, _, _, _, _, _, _, _, _, _, _, _, _, _, _, _, _, _, _], []⟩) rfl rfl rfl rfl ?_
      refine EndsOps.nil ?_
      exact ⟨_, (by omega), i + 1, v58, _, _, _, _, _, _, _, _, _, _, _, _, _, _, _, _, _, _, _, _, _, _, _, _, _, _, _, _, _, _, _, _, _, _, _, _, _, _, _, _, _, _, _, _, _, _, _, _, _, _, _, _, _, _, _, _, rfl, hO60, rfl, (by rw [invF_step he10]; exact hol63), by omega, NoTwin.step0 hN (by omega)⟩
  · skip
    refine W.op (v := .bool false) (fr1 := ⟨[_, _, _, _, _, _, _, _, _, _, _, _, _, _, _, _, _, _, _, _, _, _, _, .bool false, _, _, _, _, _, _, _, _, _, _, _, _, _, _, _, _, _, _, _, _, _, _, _, _, _, _, _, _, _, _, _, _, _, _, _, _, _, _, _, _, _, _, _, _, _, _, _, _, _, _], []⟩) rfl (p_bin (ltF h8)) rfl rfl ?_
    refine EndsOps.nil ?_
    refine Ends.condF rfl ?_
    refine Ends.exit ?_
    refine W.outT rfl ?_
    refine Ends.seq ?_
    refine Ends.region ?_
    refine W.op (v := v) (fr1 := ⟨[_, _, _, _, _, _, _, _, _, _, _, _, _, _, _, _, _, _, _, _, _, _, _, _, _, _, _, _, _, _, _, _, _, _, _, _, _, _, _, _, _, _, _, _, _, _, _, _, _, _, _, _, _, _, _, _, _, _, _, _, _, _, _, _, _, _, _, _, _, _, _, _, _, v], []⟩) rfl rfl rfl rfl ?_
    refine W.op (v := v) (fr1 := ⟨[_, _, _, _, v, _, _, _, _, _, _, _, _, _, _, _, _, _, _, _, _, _, _, _, _, _, _, _, _, _, _, _, _, _, _, _, _, _, _, _, _, _, _, _, _, _, _, _, _, _, _, _, _, _, _, _, _, _, _, _, _, _, _, _, _, _, _, _, _, _, _, _, _, _], []⟩) rfl rfl rfl rfl ?_
    refine W.op (v := .int .i64 0) (fr1 := ⟨[_, _, _, _, _, .int .i64 0, _, _, _, _, _, _, _, _, _, _, _, _, _, _, _, _, _, _, _, _, _, _, _, _, _, _, _, _, _, _, _, _, _, _, _, _, _, _, _, _, _, _, _, _, _, _, _, _, _, _, _, _, _, _, _, _, _, _, _, _, _, _, _, _, _, _, _, _], []⟩) rfl rfl rfl rfl ?_
    refine EndsOps.nil ?_
    refine Ends.ret ?_
    exact ⟨rfl, rfl, hO5, (by have ge : i = l.length := (by omega); subst ge; exact ⟨fun _ => ⟨_, rfl, (by have h := hol7; rw [List.take_length] at h; exact h)⟩, fun h => absurd hN h⟩)⟩

theorem c32F (x : ByteArray) (hx : (B x).length ≤ 140737488351232) (al : Option Addr) (l : List Ed) (cl Nl ol : Nat) (vl : List Value) (yl zl : Nat) (h0 : ¬ mayC (B x).length l = 0) (s : St) (Hl : Sl Ed.cells 3 s.t s.next al l Nl ol vl yl zl)  : EndsPure R1.T 32 [.string x, .slice al l.length cl] s (fun v _ _ => v = .tuple ⟨[.slice none 0 0, .int .i64 (mayC (B x).length l)]⟩) := by
  refine EndsPure.of (rs := [4, 5]) (fr0 := ⟨[.string x, .slice al l.length cl, undef, undef, undef, undef, undef, undef, undef, undef, undef, undef, undef, undef, undef, undef, undef, undef, undef, undef, undef, undef, undef, undef, undef, undef, undef, undef, undef, undef, undef, undef, undef, undef, undef, undef, undef, undef, undef, undef, undef, undef, undef, undef, undef, undef, undef, undef, undef, undef, undef, undef, undef, undef, undef, undef, undef, undef, undef, undef, undef, undef, undef, undef, undef, undef, undef, undef, undef, undef, undef, undef, undef, undef], []⟩) (by kernel_rfl : R1.T.fn 32 = some ⟨74, (Try.f32.body).getD .skip, [.tmp 4, .tmp 5]⟩) rfl ?_
  have hO0 := Own.refl s
  have Ml := Hl.small
  simp only [Try.f32, Option.getD]
  refine Ends.seq ?_
  refine Ends.region ?_
  refine W.op (v := .slice none 0 0) (fr1 := ⟨[_, _, _, _, .slice none 0 0, _, _, _, _, _, _, _, _, _, _, _, _, _, _, _, _, _, _, _, _, _, _, _, _, _, _, _, _, _, _, _, _, _, _, _, _, _, _, _, _, _, _, _, _, _, _, _, _, _, _, _, _, _, _, _, _, _, _, _, _, _, _, _, _, _, _, _, _, _], []⟩) rfl rfl rfl rfl ?_
  refine W.op (v := .int .i64 0) (fr1 := ⟨[_, _, _, _, _, .int .i64 0, _, _, _, _, _, _, _, _, _, _, _, _, _, _, _, _, _, _, _, _, _, _, _, _, _, _, _, _, _, _, _, _, _, _, _, _, _, _, _, _, _, _, _, _, _, _, _, _, _, _, _, _, _, _, _, _, _, _, _, _, _, _, _, _, _, _, _, _], []⟩) rfl rfl rfl rfl ?_
  refine EndsOps.nil ?_
  refine Ends.seq ?_
  refine Ends.seq ?_
  refine Ends.region ?_
  refine W.op (v := .string x) (fr1 := ⟨[_, _, _, _, _, _, _, _, _, _, _, _, .string x, _, _, _, _, _, _, _, _, _, _, _, _, _, _, _, _, _, _, _, _, _, _, _, _, _, _, _, _, _, _, _, _, _, _, _, _, _, _, _, _, _, _, _, _, _, _, _, _, _, _, _, _, _, _, _, _, _, _, _, _, _], []⟩) rfl rfl rfl rfl ?_
  refine W.op (v := .slice al l.length cl) (fr1 := ⟨[_, _, _, _, _, _, _, _, _, _, _, _, _, .slice al l.length cl, _, _, _, _, _, _, _, _, _, _, _, _, _, _, _, _, _, _, _, _, _, _, _, _, _, _, _, _, _, _, _, _, _, _, _, _, _, _, _, _, _, _, _, _, _, _, _, _, _, _, _, _, _, _, _, _, _, _, _, _], []⟩) rfl rfl rfl rfl ?_
  refine W.call (ar := [.string x, .slice al l.length cl]) (X := .tuple ⟨[.string ByteArray.empty, .int .i64 (mayC (B x).length l)]⟩) (fr1 := ⟨[_, _, _, _, _, _, _, _, _, _, _, _, _, _, .tuple ⟨[.string ByteArray.empty, .int .i64 (mayC (B x).length l)]⟩, _, _, _, _, _, _, _, _, _, _, _, _, _, _, _, _, _, _, _, _, _, _, _, _, _, _, _, _, _, _, _, _, _, _, _, _, _, _, _, _, _, _, _, _, _, _, _, _, _, _, _, _, _, _, _, _, _, _, _], []⟩) hO0 rfl rfl rfl rfl (c30F x hx _ l _ _ _ _ _ _ h0 _ (Hl.own hO0)) rfl ?_
  intro s1 hO2 hS3
  refine W.op (v := .tuple ⟨[.string ByteArray.empty, .int .i64 (mayC (B x).length l)]⟩) (fr1 := ⟨[_, _, _, _, _, _, _, _, _, _, _, .tuple ⟨[.string ByteArray.empty, .int .i64 (mayC (B x).length l)]⟩, _, _, _, _, _, _, _, _, _, _, _, _, _, _, _, _, _, _, _, _, _, _, _, _, _, _, _, _, _, _, _, _, _, _, _, _, _, _, _, _, _, _, _, _, _, _, _, _, _, _, _, _, _, _, _, _, _, _, _, _, _, _], []⟩) rfl rfl rfl rfl ?_
  refine W.op (v := .string ByteArray.empty) (fr1 := ⟨[_, _, _, _, _, _, _, _, _, _, _, _, _, _, _, .string ByteArray.empty, _, _, _, _, _, _, _, _, _, _, _, _, _, _, _, _, _, _, _, _, _, _, _, _, _, _, _, _, _, _, _, _, _, _, _, _, _, _, _, _, _, _, _, _, _, _, _, _, _, _, _, _, _, _, _, _, _, _], []⟩) rfl rfl rfl rfl ?_
  refine W.op (v := .int .i64 (mayC (B x).length l)) (fr1 := ⟨[_, _, _, _, _, _, _, _, _, _, _, _, _, _, _, _, .int .i64 (mayC (B x).length l), _, _, _, _, _, _, _, _, _, _, _, _, _, _, _, _, _, _, _, _, _, _, _, _, _, _, _, _, _, _, _, _, _, _, _, _, _, _, _, _, _, _, _, _, _, _, _, _, _, _, _, _, _, _, _, _, _], []⟩) rfl rfl rfl rfl ?_
  refine W.op (v := .string ByteArray.empty) (fr1 := ⟨[_, _, _, _, _, _, .string ByteArray.empty, _, _, _, _, _, _, _, _, _, _, _, _, _, _, _, _, _, _, _, _, _, _, _, _, _, _, _, _, _, _, _, _, _, _, _, _, _, _, _, _, _, _, _, _, _, _, _, _, _, _, _, _, _, _, _, _, _, _, _, _, _, _, _, _, _, _, _], []⟩) rfl rfl rfl rfl ?_
  refine W.op (v := .int .i64 (mayC (B x).length l)) (fr1 := ⟨[_, _, _, _, _, _, _, .int .i64 (mayC (B x).length l), _, _, _, _, _, _, _, _, _, _, _, _, _, _, _, _, _, _, _, _, _, _, _, _, _, _, _, _, _, _, _, _, _, _, _, _, _, _, _, _, _, _, _, _, _, _, _, _, _, _, _, _, _, _, _, _, _, _, _, _, _, _, _, _, _, _], []⟩) rfl rfl rfl rfl ?_
  refine EndsOps.nil ?_
  refine Ends.seq ?_
  refine Ends.region ?_
  refine W.op (v := .int .i64 (mayC (B x).length l)) (fr1 := ⟨[_, _, _, _, _, _, _, _, _, _, _, _, _, _, _, _, _, .int .i64 (mayC (B x).length l), _, _, _, _, _, _, _, _, _, _, _, _, _, _, _, _, _, _, _, _, _, _, _, _, _, _, _, _, _, _, _, _, _, _, _, _, _, _, _, _, _, _, _, _, _, _, _, _, _, _, _, _, _, _, _, _], []⟩) rfl rfl rfl rfl ?_
  refine W.op (v := .bool true) (fr1 := ⟨[_, _, _, _, _, _, _, _, _, _, _, _, _, _, _, _, _, _, .bool true, _, _, _, _, _, _, _, _, _, _, _, _, _, _, _, _, _, _, _, _, _, _, _, _, _, _, _, _, _, _, _, _, _, _, _, _, _, _, _, _, _, _, _, _, _, _, _, _, _, _, _, _, _, _, _], []⟩) rfl (p_bin (neT h0)) rfl rfl ?_
  refine EndsOps.nil ?_
  refine Ends.condT rfl ?_
  refine Ends.seq ?_
  refine Ends.region ?_
  refine W.op (v := .int .i64 (mayC (B x).length l)) (fr1 := ⟨[_, _, _, _, _, _, _, _, _, _, _, _, _, _, _, _, _, _, _, .int .i64 (mayC (B x).length l), _, _, _, _, _, _, _, _, _, _, _, _, _, _, _, _, _, _, _, _, _, _, _, _, _, _, _, _, _, _, _, _, _, _, _, _, _, _, _, _, _, _, _, _, _, _, _, _, _, _, _, _, _, _], []⟩) rfl rfl rfl rfl ?_
  refine W.op (v := .slice none 0 0) (fr1 := ⟨[_, _, _, _, .slice none 0 0, _, _, _, _, _, _, _, _, _, _, _, _, _, _, _, _, _, _, _, _, _, _, _, _, _, _, _, _, _, _, _, _, _, _, _, _, _, _, _, _, _, _, _, _, _, _, _, _, _, _, _, _, _, _, _, _, _, _, _, _, _, _, _, _, _, _, _, _, _], []⟩) rfl rfl rfl rfl ?_
  refine W.op (v := .int .i64 (mayC (B x).length l)) (fr1 := ⟨[_, _, _, _, _, .int .i64 (mayC (B x).length l), _, _, _, _, _, _, _, _, _, _, _, _, _, _, _, _, _, _, _, _, _, _, _, _, _, _, _, _, _, _, _, _, _, _, _, _, _, _, _, _, _, _, _, _, _, _, _, _, _, _, _, _, _, _, _, _, _, _, _, _, _, _, _, _, _, _, _, _], []⟩) rfl rfl rfl rfl ?_
  refine EndsOps.nil ?_
  refine Ends.ret ?_
  exact ⟨rfl, rfl, hO2, by
    show Value.tuple ⟨[.slice none 0 0, .int .i64 (mayC (B x).length l)]⟩ = Value.tuple ⟨[.slice none 0 0, .int .i64 (mayC (B x).length l)]⟩
    rfl⟩

theorem c33 (aa : Option Addr) (a : List Ed) (ca Na oa : Nat) (va : List Value) (ya za : Nat) (ab : Option Addr) (b : List Ed) (cb Nb ob : Nat) (vb : List Value) (yb zb : Nat) (s : St) (Ha : Sl Ed.cells 3 s.t s.next aa a Na oa va ya za) (Hb : Sl Ed.cells 3 s.t s.next ab b Nb ob vb yb zb)  : EndsPure R1.T 33 [.slice aa a.length ca, .slice ab b.length cb] s (fun v _ _ => v = .bool (decide (a = b))) := by
  refine EndsPure.of (rs := [4]) (fr0 := ⟨[.slice aa a.length ca, .slice ab b.length cb, undef, undef, undef, undef, undef, undef, undef, undef, undef, undef, undef, undef, undef, undef, undef, undef, undef, undef, undef, undef, undef, undef, undef, undef], []⟩) (by kernel_rfl : R1.T.fn 33 = some ⟨26, (Try.f33.body).getD .skip, [.tmp 4]⟩) rfl ?_
  have hO0 := Own.refl s
  have Ma := Ha.small
  have Mb := Hb.small
  simp only [Try.f33, Option.getD]
  refine Ends.seq ?_
  refine Ends.region ?_
  refine W.op (v := .bool false) (fr1 := ⟨[_, _, _, _, .bool false, _, _, _, _, _, _, _, _, _, _, _, _, _, _, _, _, _, _, _, _, _], []⟩) rfl rfl rfl rfl ?_
  refine EndsOps.nil ?_
  refine Ends.seq ?_
  refine Ends.seq ?_
  refine Ends.region ?_
  refine W.op (v := .slice aa a.length ca) (fr1 := ⟨[_, _, _, _, _, _, .slice aa a.length ca, _, _, _, _, _, _, _, _, _, _, _, _, _, _, _, _, _, _, _], []⟩) rfl rfl rfl rfl ?_
  refine W.op (v := .int .i64 ((a.length : Nat) : Int)) (fr1 := ⟨[_, _, _, _, _, _, _, .int .i64 ((a.length : Nat) : Int), _, _, _, _, _, _, _, _, _, _, _, _, _, _, _, _, _, _], []⟩) rfl rfl rfl rfl ?_
  refine W.op (v := .slice ab b.length cb) (fr1 := ⟨[_, _, _, _, _, _, _, _, .slice ab b.length cb, _, _, _, _, _, _, _, _, _, _, _, _, _, _, _, _, _], []⟩) rfl rfl rfl rfl ?_
  refine W.op (v := .int .i64 ((b.length : Nat) : Int)) (fr1 := ⟨[_, _, _, _, _, _, _, _, _, .int .i64 ((b.length : Nat) : Int), _, _, _, _, _, _, _, _, _, _, _, _, _, _, _, _], []⟩) rfl rfl rfl rfl ?_
  by_cases h1 : ((a.length : Nat) : Int) = ((b.length : Nat) : Int)
  · skip
    refine W.op (v := .bool false) (fr1 := ⟨[_, _, _, _, _, _, _, _, _, _, .bool false, _, _, _, _, _, _, _, _, _, _, _, _, _, _, _], []⟩) rfl (p_bin (neF h1)) rfl rfl ?_
    refine EndsOps.nil ?_
    refine Ends.condF rfl ?_
    refine Ends.skip ?_
    refine Ends.seq ?_
    refine Ends.seq ?_
    refine Ends.region ?_
    refine W.op (v := .slice aa a.length ca) (fr1 := ⟨[_, _, _, _, _, _, _, _, _, _, _, .slice aa a.length ca, _, _, _, _, _, _, _, _, _, _, _, _, _, _], []⟩) rfl rfl rfl rfl ?_
    refine W.op (v := .int .i64 ((a.length : Nat) : Int)) (fr1 := ⟨[_, _, _, _, _, _, _, _, _, _, _, _, .int .i64 ((a.length : Nat) : Int), _, _, _, _, _, _, _, _, _, _, _, _, _], []⟩) rfl rfl rfl rfl ?_
    refine W.op (v := .int .i64 0) (fr1 := ⟨[_, _, _, _, _, _, _, _, _, _, _, _, _, .int .i64 0, _, _, _, _, _, _, _, _, _, _, _, _], []⟩) rfl rfl rfl rfl ?_
    refine EndsOps.nil ?_
    refine W.block ?_
    refine Ends.loopInv (fun d fr s1 => ∃ (i : Nat) (j4 j5 j14 j15 j16 j17 j18 j19 j20 j21 j22 j23 j24 j25 : Value), fr = ⟨[.slice aa a.length ca, .slice ab b.length cb, undef, undef, j4, j5, .slice aa a.length ca, .int .i64 ((a.length : Nat) : Int), .slice ab b.length cb, .int .i64 ((b.length : Nat) : Int), .bool false, .slice aa a.length ca, .int .i64 ((a.length : Nat) : Int), .int .i64 ((i : Nat) : Int), j14, j15, j16, j17, j18, j19, j20, j21, j22, j23, j24, j25], []⟩ ∧ Own s s1 ∧ d = a.length - i ∧ (i ≤ a.length) ∧ (∀ k, k < i → a[k]? = b[k]?)) ?_ _ _ _ ⟨0, _, _, _, _, _, _, _, _, _, _, _, _, _, _, rfl, hO0, rfl, Nat.zero_le _, fun k hk => absurd hk (Nat.not_lt_zero k)⟩
    rintro d _ s2 ⟨i, j4, j5, j14, j15, j16, j17, j18, j19, j20, j21, j22, j23, j24, j25, rfl, hO3, hd4, hi, hE⟩
    refine Ends.seq ?_
    refine Ends.region ?_
    by_cases h5 : ((i : Nat) : Int) < ((a.length : Nat) : Int)
    · skip
      refine W.op (v := .bool true) (fr1 := ⟨[_, _, _, _, _, _, _, _, _, _, _, _, _, _, .bool true, _, _, _, _, _, _, _, _, _, _, _], []⟩) rfl (p_bin (ltT h5)) rfl rfl ?_
      refine EndsOps.nil ?_
      refine Ends.seq ?_
      refine Ends.condT rfl ?_
      refine Ends.skip ?_
      refine Ends.seq ?_
      refine W.block ?_
      refine Ends.seq ?_
      refine Ends.region ?_
      refine W.op (v := .int .i64 ((i : Nat) : Int)) (fr1 := ⟨[_, _, _, _, _, _, _, _, _, _, _, _, _, _, _, .int .i64 ((i : Nat) : Int), _, _, _, _, _, _, _, _, _, _], []⟩) rfl rfl rfl rfl ?_
      refine W.op (v := .int .i64 ((i : Nat) : Int)) (fr1 := ⟨[_, _, _, _, _, .int .i64 ((i : Nat) : Int), _, _, _, _, _, _, _, _, _, _, _, _, _, _, _, _, _, _, _, _], []⟩) rfl rfl rfl rfl ?_
      refine EndsOps.nil ?_
      refine Ends.seq ?_
      refine Ends.drawW (bef := [0, 0, 3, 7, 0, 0, 48, 112, 255]) (by kernel_rfl) ?_
      refine D.op (v := .slice aa a.length ca) (fr1 := ⟨[_, _, _, _, _, _, _, _, _, _, _, _, _, _, _, _, .slice aa a.length ca, _, _, _, _, _, _, _, _, _], []⟩) rfl rfl rfl rfl rfl ?_
      refine D.op (v := .int .i64 ((i : Nat) : Int)) (fr1 := ⟨[_, _, _, _, _, _, _, _, _, _, _, _, _, _, _, _, _, .int .i64 ((i : Nat) : Int), _, _, _, _, _, _, _, _], []⟩) rfl rfl rfl rfl rfl ?_
      obtain ⟨e6, he7⟩ := ex_at (l := a) (i := i) (by omega)
      refine D.op (v := .pointer (some ⟨Na, oa + i * 3, none⟩)) (fr1 := ⟨[_, _, _, _, _, _, _, _, _, _, _, _, _, _, _, _, _, _, .pointer (some ⟨Na, oa + i * 3, none⟩), _, _, _, _, _, _, _], []⟩) rfl (p_ix (Sl.ix Ha rfl rfl he7 _)) rfl rfl rfl ?_
      refine D.load (v := .agg ⟨[.int .i64 e6.lo, .int .i64 e6.hi, .string e6.tx]⟩) (fr1 := ⟨[_, _, _, _, _, _, _, _, _, _, _, _, _, _, _, _, _, _, _, .agg ⟨[.int .i64 e6.lo, .int .i64 e6.hi, .string e6.tx]⟩, _, _, _, _, _, _], []⟩) rfl rfl rfl (fun _ h => by cases h) (fun s1 hg => (p_loadA ⟨hg.trans ((Sl.row' (Ha.own hO3) he7)).get, ((Sl.row' (Ha.own hO3) he7)).lt⟩ rfl rfl rfl rfl ((Ha.own hO3).get _ _ he7))) rfl ?_
      refine D.op (v := .slice ab b.length cb) (fr1 := ⟨[_, _, _, _, _, _, _, _, _, _, _, _, _, _, _, _, _, _, _, _, .slice ab b.length cb, _, _, _, _, _], []⟩) rfl rfl rfl rfl rfl ?_
      refine D.op (v := .int .i64 ((i : Nat) : Int)) (fr1 := ⟨[_, _, _, _, _, _, _, _, _, _, _, _, _, _, _, _, _, _, _, _, _, .int .i64 ((i : Nat) : Int), _, _, _, _], []⟩) rfl rfl rfl rfl rfl ?_
      obtain ⟨e8, he9⟩ := ex_at (l := b) (i := i) (by omega)
      refine D.op (v := .pointer (some ⟨Nb, ob + i * 3, none⟩)) (fr1 := ⟨[_, _, _, _, _, _, _, _, _, _, _, _, _, _, _, _, _, _, _, _, _, _, .pointer (some ⟨Nb, ob + i * 3, none⟩), _, _, _], []⟩) rfl (p_ix (Sl.ix Hb rfl rfl he9 _)) rfl rfl rfl ?_
      refine D.load (v := .agg ⟨[.int .i64 e8.lo, .int .i64 e8.hi, .string e8.tx]⟩) (fr1 := ⟨[_, _, _, _, _, _, _, _, _, _, _, _, _, _, _, _, _, _, _, _, _, _, _, .agg ⟨[.int .i64 e8.lo, .int .i64 e8.hi, .string e8.tx]⟩, _, _], []⟩) rfl rfl rfl (fun _ h => by cases h) (fun s1 hg => (p_loadA ⟨hg.trans ((Sl.row' (Hb.own hO3) he9)).get, ((Sl.row' (Hb.own hO3) he9)).lt⟩ rfl rfl rfl rfl ((Hb.own hO3).get _ _ he9))) rfl ?_
      by_cases h10 : e6.lo = e8.lo ∧ e6.hi = e8.hi ∧ B e6.tx = B e8.tx
      · skip
        refine D.op (v := .bool false) (fr1 := ⟨[_, _, _, _, _, _, _, _, _, _, _, _, _, _, _, _, _, _, _, _, _, _, _, _, .bool false, _], []⟩) rfl (p_bin (ed97neqT h10)) rfl rfl rfl ?_
        refine D.nil ?_
        refine Ends.condF rfl ?_
        refine Ends.skip ?_
        refine Ends.region ?_
        refine W.op (v := .int .i64 ((i + 1 : Nat) : Int)) (fr1 := ⟨[_, _, _, _, _, _, _, _, _, _, _, _, _, _, _, _, _, _, _, _, _, _, _, _, _, .int .i64 ((i + 1 : Nat) : Int)], []⟩) rfl (p_bin (addI (by omega) (by omega) (by omega))) rfl rfl ?_
        refine W.op (v := .int .i64 ((i + 1 : Nat) : Int)) (fr1 := ⟨[_, _, _, _, _, _, _, _, _, _, _, _, _, .int .i64 ((i + 1 : Nat) : Int), _, _, _, _, _, _, _, _, _, _, _, _], []⟩) rfl rfl rfl rfl ?_
        refine EndsOps.nil ?_
        exact ⟨_, (by omega), i + 1, _, _, _, _, _, _, _, _, _, _, _, _, _, _, rfl, hO3, rfl, by omega, same_step hE he7 he9 h10⟩
      · skip
        refine D.op (v := .bool true) (fr1 := ⟨[_, _, _, _, _, _, _, _, _, _, _, _, _, _, _, _, _, _, _, _, _, _, _, _, .bool true, _], []⟩) rfl (p_bin (ed97neqF h10)) rfl rfl rfl ?_
        refine D.nil ?_
        refine Ends.condT rfl ?_
        refine Ends.seq ?_
        refine Ends.region ?_
        refine W.op (v := .bool false) (fr1 := ⟨[_, _, _, _, .bool false, _, _, _, _, _, _, _, _, _, _, _, _, _, _, _, _, _, _, _, _, _], []⟩) rfl rfl rfl rfl ?_
        refine EndsOps.nil ?_
        refine Ends.ret ?_
        exact ⟨rfl, rfl, hO3, by
          show Value.bool false = .bool (decide (a = b))
          exact congrArg Value.bool (decide_eq_false fun hh => h10 (by subst hh; rw [he7] at he9; cases he9; exact ⟨rfl, rfl, rfl⟩)).symm⟩
    · skip
      refine W.op (v := .bool false) (fr1 := ⟨[_, _, _, _, _, _, _, _, _, _, _, _, _, _, .bool false, _, _, _, _, _, _, _, _, _, _, _], []⟩) rfl (p_bin (ltF h5)) rfl rfl ?_
      refine EndsOps.nil ?_
      refine Ends.seq ?_
      refine Ends.condF rfl ?_
      refine Ends.exit ?_
      refine W.outT rfl ?_
      refine Ends.seq ?_
      refine Ends.region ?_
      refine W.op (v := .bool true) (fr1 := ⟨[_, _, _, _, .bool true, _, _, _, _, _, _, _, _, _, _, _, _, _, _, _, _, _, _, _, _, _], []⟩) rfl rfl rfl rfl ?_
      refine EndsOps.nil ?_
      refine Ends.ret ?_
      exact ⟨rfl, rfl, hO3, by
        show Value.bool true = .bool (decide (a = b))
        exact congrArg Value.bool (decide_eq_true (list_same (by omega) hE (by omega))).symm⟩
  · skip
    refine W.op (v := .bool true) (fr1 := ⟨[_, _, _, _, _, _, _, _, _, _, .bool true, _, _, _, _, _, _, _, _, _, _, _, _, _, _, _], []⟩) rfl (p_bin (neT h1)) rfl rfl ?_
    refine EndsOps.nil ?_
    refine Ends.condT rfl ?_
    refine Ends.seq ?_
    refine Ends.region ?_
    refine W.op (v := .bool false) (fr1 := ⟨[_, _, _, _, .bool false, _, _, _, _, _, _, _, _, _, _, _, _, _, _, _, _, _, _, _, _, _], []⟩) rfl rfl rfl rfl ?_
    refine EndsOps.nil ?_
    refine Ends.ret ?_
    exact ⟨rfl, rfl, hO0, by
      show Value.bool false = .bool (decide (a = b))
      exact congrArg Value.bool (decide_eq_false fun hh => h1 (by rw [hh])).symm⟩

theorem c5 (x : ByteArray) (hx : (B x).length ≤ 140737488351232) (al : Option Addr) (l : List Ed) (cl Nl ol : Nat) (vl : List Value) (yl zl : Nat) (C : Cp 3 al l.length cl) (K : ∀ e ∈ l, e.Ok) (s : St) (Hl : Sl Ed.cells 3 s.t s.next al l Nl ol vl yl zl) (A : EndsPure R1.T 27 [] s fun v _ _ => v = .bool true) : EndsPure R1.T 5 [.string x, .slice al l.length cl] s (fun v _ _ => v = .bool true) := by
  refine EndsPure.of (rs := [4]) (fr0 := ⟨[.string x, .slice al l.length cl, undef, undef, undef, undef, undef, undef, undef, undef, undef, undef, undef, undef, undef, undef, undef, undef, undef, undef, undef, undef, undef, undef, undef, undef, undef, undef, undef, undef, undef, undef, undef, undef, undef, undef, undef, undef, undef, undef, undef, undef, undef, undef, undef, undef, undef, undef, undef, undef, undef, undef, undef, undef, undef, undef, undef, undef, undef, undef, undef, undef, undef, undef, undef, undef, undef, undef, undef, undef, undef], []⟩) (by kernel_rfl : R1.T.fn 5 = some ⟨71, (Try.f5.body).getD .skip, [.tmp 4]⟩) rfl ?_
  have hO0 := Own.refl s
  have Ml := Hl.small
  simp only [Try.f5, Option.getD]
  refine Ends.seq ?_
  refine Ends.region ?_
  refine W.op (v := .bool false) (fr1 := ⟨[_, _, _, _, .bool false, _, _, _, _, _, _, _, _, _, _, _, _, _, _, _, _, _, _, _, _, _, _, _, _, _, _, _, _, _, _, _, _, _, _, _, _, _, _, _, _, _, _, _, _, _, _, _, _, _, _, _, _, _, _, _, _, _, _, _, _, _, _, _, _, _, _], []⟩) rfl rfl rfl rfl ?_
  refine EndsOps.nil ?_
  refine Ends.seq ?_
  refine Ends.seq ?_
  refine Ends.region ?_
  refine W.call (ar := []) (X := .bool true) (fr1 := ⟨[_, _, _, _, _, _, _, _, _, _, _, _, _, _, .bool true, _, _, _, _, _, _, _, _, _, _, _, _, _, _, _, _, _, _, _, _, _, _, _, _, _, _, _, _, _, _, _, _, _, _, _, _, _, _, _, _, _, _, _, _, _, _, _, _, _, _, _, _, _, _, _, _], []⟩) hO0 rfl rfl rfl rfl A rfl ?_
  intro s1 hO2 hS3
  refine W.op (v := .bool false) (fr1 := ⟨[_, _, _, _, _, _, _, _, _, _, _, _, _, _, _, .bool false, _, _, _, _, _, _, _, _, _, _, _, _, _, _, _, _, _, _, _, _, _, _, _, _, _, _, _, _, _, _, _, _, _, _, _, _, _, _, _, _, _, _, _, _, _, _, _, _, _, _, _, _, _, _, _], []⟩) rfl rfl rfl rfl ?_
  refine EndsOps.nil ?_
  refine Ends.condF rfl ?_
  refine Ends.skip ?_
  refine Ends.seq ?_
  refine Ends.seq ?_
  refine Ends.region ?_
  refine W.op (v := .string x) (fr1 := ⟨[_, _, _, _, _, _, _, _, _, _, _, _, _, _, _, _, .string x, _, _, _, _, _, _, _, _, _, _, _, _, _, _, _, _, _, _, _, _, _, _, _, _, _, _, _, _, _, _, _, _, _, _, _, _, _, _, _, _, _, _, _, _, _, _, _, _, _, _, _, _, _, _], []⟩) rfl rfl rfl rfl ?_
  refine W.op (v := .slice al l.length cl) (fr1 := ⟨[_, _, _, _, _, _, _, _, _, _, _, _, _, _, _, _, _, .slice al l.length cl, _, _, _, _, _, _, _, _, _, _, _, _, _, _, _, _, _, _, _, _, _, _, _, _, _, _, _, _, _, _, _, _, _, _, _, _, _, _, _, _, _, _, _, _, _, _, _, _, _, _, _, _, _], []⟩) rfl rfl rfl rfl ?_
  by_cases h4 : Large (B x).length l
  · skip
    refine W.call (ar := [.string x, .slice al l.length cl]) (X := .bool true) (fr1 := ⟨[_, _, _, _, _, _, _, _, _, _, _, _, _, _, _, _, _, _, .bool true, _, _, _, _, _, _, _, _, _, _, _, _, _, _, _, _, _, _, _, _, _, _, _, _, _, _, _, _, _, _, _, _, _, _, _, _, _, _, _, _, _, _, _, _, _, _, _, _, _, _, _, _], []⟩) hO2 rfl rfl rfl rfl ((c28 x hx _ l _ _ _ _ _ _ K _ (Hl.own hO2)).mono fun v _ _ g => g.trans (congrArg Value.bool (decide_eq_true h4))) rfl ?_
    intro s5 hO6 hS7
    refine EndsOps.nil ?_
    refine Ends.condT rfl ?_
    refine Ends.seq ?_
    refine Ends.region ?_
    refine W.op (v := .bool true) (fr1 := ⟨[_, _, _, _, .bool true, _, _, _, _, _, _, _, _, _, _, _, _, _, _, _, _, _, _, _, _, _, _, _, _, _, _, _, _, _, _, _, _, _, _, _, _, _, _, _, _, _, _, _, _, _, _, _, _, _, _, _, _, _, _, _, _, _, _, _, _, _, _, _, _, _, _], []⟩) rfl rfl rfl rfl ?_
    refine EndsOps.nil ?_
    refine Ends.ret ?_
    exact ⟨rfl, rfl, hO6, by
      show Value.bool true = Value.bool true
      rfl⟩
  · skip
    have hB : l.length ≤ 1000 := by simp only [Large] at h4; omega
    have hS : (B x).length + sumT l ≤ 1000000 := by simp only [Large] at h4; omega
    refine W.call (ar := [.string x, .slice al l.length cl]) (X := .bool false) (fr1 := ⟨[_, _, _, _, _, _, _, _, _, _, _, _, _, _, _, _, _, _, .bool false, _, _, _, _, _, _, _, _, _, _, _, _, _, _, _, _, _, _, _, _, _, _, _, _, _, _, _, _, _, _, _, _, _, _, _, _, _, _, _, _, _, _, _, _, _, _, _, _, _, _, _, _], []⟩) hO2 rfl rfl rfl rfl ((c28 x hx _ l _ _ _ _ _ _ K _ (Hl.own hO2)).mono fun v _ _ g => g.trans (congrArg Value.bool (decide_eq_false h4))) rfl ?_
    intro s8 hO9 hS10
    refine EndsOps.nil ?_
    refine Ends.condF rfl ?_
    refine Ends.skip ?_
    refine Ends.seq ?_
    refine Ends.region ?_
    obtain ⟨N11, hN12⟩ : ∃ N, N = s8.next := ⟨_, rfl⟩
    refine W.newE (N := N11) (fr1 := ⟨[_, _, _, _, _, _, _, _, _, _, _, _, _, _, _, _, _, _, _, .slice (some ⟨N11, 0, none⟩) 0 0, _, _, _, _, _, _, _, _, _, _, _, _, _, _, _, _, _, _, _, _, _, _, _, _, _, _, _, _, _, _, _, _, _, _, _, _, _, _, _, _, _, _, _, _, _, _, _, _, _, _, _], []⟩) hO9 hN12 rfl rfl rfl rfl zero97 rfl rfl ?_
    intro s13 hO14 hS15
    refine W.op (v := .slice al l.length cl) (fr1 := ⟨[_, _, _, _, _, _, _, _, _, _, _, _, _, _, _, _, _, _, _, _, .slice al l.length cl, _, _, _, _, _, _, _, _, _, _, _, _, _, _, _, _, _, _, _, _, _, _, _, _, _, _, _, _, _, _, _, _, _, _, _, _, _, _, _, _, _, _, _, _, _, _, _, _, _, _], []⟩) rfl rfl rfl rfl ?_
    refine W.appendL (c := Ed.cells) (l := l) (fF := fun v16 => ⟨[_, _, _, _, _, _, _, _, _, _, _, _, _, _, _, _, _, _, _, _, _, v16, _, _, _, _, _, _, _, _, _, _, _, _, _, _, _, _, _, _, _, _, _, _, _, _, _, _, _, _, _, _, _, _, _, _, _, _, _, _, _, _, _, _, _, _, _, _, _, _, _], []⟩) app22 (fun _ => rfl) (by exact Ed.one) hO14 OL.none (Hl.own hO14) C rfl rfl rfl rfl (by omega) (fun _ => rfl) ?_
    intro v16 s17 hO18 hnx19 hol20
    refine W.op (v := v16) (fr1 := ⟨[_, _, _, _, _, v16, _, _, _, _, _, _, _, _, _, _, _, _, _, _, _, _, _, _, _, _, _, _, _, _, _, _, _, _, _, _, _, _, _, _, _, _, _, _, _, _, _, _, _, _, _, _, _, _, _, _, _, _, _, _, _, _, _, _, _, _, _, _, _, _, _], []⟩) rfl rfl rfl rfl ?_
    refine EndsOps.nil ?_
    refine Ends.seq ?_
    refine Ends.region ?_
    refine W.op (v := .string x) (fr1 := ⟨[_, _, _, _, _, _, _, _, _, _, _, _, _, _, _, _, _, _, _, _, _, _, _, .string x, _, _, _, _, _, _, _, _, _, _, _, _, _, _, _, _, _, _, _, _, _, _, _, _, _, _, _, _, _, _, _, _, _, _, _, _, _, _, _, _, _, _, _, _, _, _, _], []⟩) rfl rfl rfl rfl ?_
    refine W.op (v := v16) (fr1 := ⟨[_, _, _, _, _, _, _, _, _, _, _, _, _, _, _, _, _, _, _, _, _, _, _, _, v16, _, _, _, _, _, _, _, _, _, _, _, _, _, _, _, _, _, _, _, _, _, _, _, _, _, _, _, _, _, _, _, _, _, _, _, _, _, _, _, _, _, _, _, _, _, _], []⟩) rfl rfl rfl rfl ?_
    obtain ⟨a21, cq22, N23, v24, y25, z26, rfl, H27, lo28, C29⟩ := hol20.sl (fun _ => rfl)
    have sm_a21 := H27.small
    by_cases h30 : mayC (B x).length l = 0
    · skip
      have e1 : B (apS x l) = B (rapS x l) := congrArg B (ap_eq (may0 h30).1)
      have e2 := inv_iff hS hB h30
      refine W.call (ar := [.string x, .slice a21 l.length cq22]) (X := .tuple ⟨[.string (apS x l), .nilIface]⟩) (fr1 := ⟨[_, _, _, _, _, _, _, _, _, _, _, _, _, _, _, _, _, _, _, _, _, _, _, _, _, .tuple ⟨[.string (apS x l), .nilIface]⟩, _, _, _, _, _, _, _, _, _, _, _, _, _, _, _, _, _, _, _, _, _, _, _, _, _, _, _, _, _, _, _, _, _, _, _, _, _, _, _, _, _, _, _, _, _], []⟩) hO18 rfl rfl rfl rfl (c29T x hx _ l _ _ _ _ _ _ hS h30 _ (H27.own (Own.refl s17))) rfl ?_
      intro s31 hO32 hS33
      have hE34 := (Own.refl s17).trans hS33
      refine W.op (v := .tuple ⟨[.string (apS x l), .nilIface]⟩) (fr1 := ⟨[_, _, _, _, _, _, _, _, _, _, _, _, _, _, _, _, _, _, _, _, _, _, .tuple ⟨[.string (apS x l), .nilIface]⟩, _, _, _, _, _, _, _, _, _, _, _, _, _, _, _, _, _, _, _, _, _, _, _, _, _, _, _, _, _, _, _, _, _, _, _, _, _, _, _, _, _, _, _, _, _, _, _, _], []⟩) rfl rfl rfl rfl ?_
      refine W.op (v := .string (apS x l)) (fr1 := ⟨[_, _, _, _, _, _, _, _, _, _, _, _, _, _, _, _, _, _, _, _, _, _, _, _, _, _, .string (apS x l), _, _, _, _, _, _, _, _, _, _, _, _, _, _, _, _, _, _, _, _, _, _, _, _, _, _, _, _, _, _, _, _, _, _, _, _, _, _, _, _, _, _, _, _], []⟩) rfl rfl rfl rfl ?_
      refine W.op (v := .nilIface) (fr1 := ⟨[_, _, _, _, _, _, _, _, _, _, _, _, _, _, _, _, _, _, _, _, _, _, _, _, _, _, _, .nilIface, _, _, _, _, _, _, _, _, _, _, _, _, _, _, _, _, _, _, _, _, _, _, _, _, _, _, _, _, _, _, _, _, _, _, _, _, _, _, _, _, _, _, _], []⟩) rfl rfl rfl rfl ?_
      refine W.op (v := .string (apS x l)) (fr1 := ⟨[_, _, _, _, _, _, .string (apS x l), _, _, _, _, _, _, _, _, _, _, _, _, _, _, _, _, _, _, _, _, _, _, _, _, _, _, _, _, _, _, _, _, _, _, _, _, _, _, _, _, _, _, _, _, _, _, _, _, _, _, _, _, _, _, _, _, _, _, _, _, _, _, _, _], []⟩) rfl rfl rfl rfl ?_
      refine W.op (v := .nilIface) (fr1 := ⟨[_, _, _, _, _, _, _, .nilIface, _, _, _, _, _, _, _, _, _, _, _, _, _, _, _, _, _, _, _, _, _, _, _, _, _, _, _, _, _, _, _, _, _, _, _, _, _, _, _, _, _, _, _, _, _, _, _, _, _, _, _, _, _, _, _, _, _, _, _, _, _, _, _], []⟩) rfl rfl rfl rfl ?_
      refine EndsOps.nil ?_
      refine Ends.seq ?_
      refine Ends.region ?_
      refine W.op (v := .string x) (fr1 := ⟨[_, _, _, _, _, _, _, _, _, _, _, _, _, _, _, _, _, _, _, _, _, _, _, _, _, _, _, _, _, .string x, _, _, _, _, _, _, _, _, _, _, _, _, _, _, _, _, _, _, _, _, _, _, _, _, _, _, _, _, _, _, _, _, _, _, _, _, _, _, _, _, _], []⟩) rfl rfl rfl rfl ?_
      refine W.op (v := .slice al l.length cl) (fr1 := ⟨[_, _, _, _, _, _, _, _, _, _, _, _, _, _, _, _, _, _, _, _, _, _, _, _, _, _, _, _, _, _, .slice al l.length cl, _, _, _, _, _, _, _, _, _, _, _, _, _, _, _, _, _, _, _, _, _, _, _, _, _, _, _, _, _, _, _, _, _, _, _, _, _, _, _, _], []⟩) rfl rfl rfl rfl ?_
      refine W.call (ar := [.string x, .slice al l.length cl]) (X := .tuple ⟨[.string (rapS x l), .int .i64 0]⟩) (fr1 := ⟨[_, _, _, _, _, _, _, _, _, _, _, _, _, _, _, _, _, _, _, _, _, _, _, _, _, _, _, _, _, _, _, .tuple ⟨[.string (rapS x l), .int .i64 0]⟩, _, _, _, _, _, _, _, _, _, _, _, _, _, _, _, _, _, _, _, _, _, _, _, _, _, _, _, _, _, _, _, _, _, _, _, _, _, _, _], []⟩) hO32 rfl rfl rfl rfl (c30T x hx _ l _ _ _ _ _ _ hS h30 _ (Hl.own hO32)) rfl ?_
      intro s35 hO36 hS37
      have hE38 := hE34.trans hS37
      refine W.op (v := .tuple ⟨[.string (rapS x l), .int .i64 0]⟩) (fr1 := ⟨[_, _, _, _, _, _, _, _, _, _, _, _, _, _, _, _, _, _, _, _, _, _, _, _, _, _, _, _, .tuple ⟨[.string (rapS x l), .int .i64 0]⟩, _, _, _, _, _, _, _, _, _, _, _, _, _, _, _, _, _, _, _, _, _, _, _, _, _, _, _, _, _, _, _, _, _, _, _, _, _, _, _, _, _, _], []⟩) rfl rfl rfl rfl ?_
      refine W.op (v := .string (rapS x l)) (fr1 := ⟨[_, _, _, _, _, _, _, _, _, _, _, _, _, _, _, _, _, _, _, _, _, _, _, _, _, _, _, _, _, _, _, _, .string (rapS x l), _, _, _, _, _, _, _, _, _, _, _, _, _, _, _, _, _, _, _, _, _, _, _, _, _, _, _, _, _, _, _, _, _, _, _, _, _, _], []⟩) rfl rfl rfl rfl ?_
      refine W.op (v := .int .i64 0) (fr1 := ⟨[_, _, _, _, _, _, _, _, _, _, _, _, _, _, _, _, _, _, _, _, _, _, _, _, _, _, _, _, _, _, _, _, _, .int .i64 0, _, _, _, _, _, _, _, _, _, _, _, _, _, _, _, _, _, _, _, _, _, _, _, _, _, _, _, _, _, _, _, _, _, _, _, _, _], []⟩) rfl rfl rfl rfl ?_
      refine W.op (v := .string (rapS x l)) (fr1 := ⟨[_, _, _, _, _, _, _, _, .string (rapS x l), _, _, _, _, _, _, _, _, _, _, _, _, _, _, _, _, _, _, _, _, _, _, _, _, _, _, _, _, _, _, _, _, _, _, _, _, _, _, _, _, _, _, _, _, _, _, _, _, _, _, _, _, _, _, _, _, _, _, _, _, _, _], []⟩) rfl rfl rfl rfl ?_
      refine W.op (v := .int .i64 0) (fr1 := ⟨[_, _, _, _, _, _, _, _, _, .int .i64 0, _, _, _, _, _, _, _, _, _, _, _, _, _, _, _, _, _, _, _, _, _, _, _, _, _, _, _, _, _, _, _, _, _, _, _, _, _, _, _, _, _, _, _, _, _, _, _, _, _, _, _, _, _, _, _, _, _, _, _, _, _], []⟩) rfl rfl rfl rfl ?_
      refine EndsOps.nil ?_
      refine Ends.seq ?_
      refine Ends.region ?_
      refine W.op (v := .string x) (fr1 := ⟨[_, _, _, _, _, _, _, _, _, _, _, _, _, _, _, _, _, _, _, _, _, _, _, _, _, _, _, _, _, _, _, _, _, _, _, .string x, _, _, _, _, _, _, _, _, _, _, _, _, _, _, _, _, _, _, _, _, _, _, _, _, _, _, _, _, _, _, _, _, _, _, _], []⟩) rfl rfl rfl rfl ?_
      refine W.op (v := .slice a21 l.length cq22) (fr1 := ⟨[_, _, _, _, _, _, _, _, _, _, _, _, _, _, _, _, _, _, _, _, _, _, _, _, _, _, _, _, _, _, _, _, _, _, _, _, .slice a21 l.length cq22, _, _, _, _, _, _, _, _, _, _, _, _, _, _, _, _, _, _, _, _, _, _, _, _, _, _, _, _, _, _, _, _, _, _], []⟩) rfl rfl rfl rfl ?_
      by_cases h39 : Right (invS x l) (W ((((B x).length : Nat) : Int) + W (growS l)))
      · skip
        refine W.callE (ar := [.string x, .slice a21 l.length cq22]) (fF := fun v40 => ⟨[_, _, _, _, _, _, _, _, _, _, _, _, _, _, _, _, _, _, _, _, _, _, _, _, _, _, _, _, _, _, _, _, _, _, _, _, _, v40, _, _, _, _, _, _, _, _, _, _, _, _, _, _, _, _, _, _, _, _, _, _, _, _, _, _, _, _, _, _, _, _, _], []⟩) hO36 rfl rfl rfl rfl (c31T x hx _ l _ _ _ _ _ _ hS hB h30  _ (H27.own hE38)) (fun _ => rfl) ?_
        intro v40 s41 hR44 hO42 hS43
        have hE45 := hE38.trans hS43
        obtain ⟨w46, rfl, hol47⟩ := hR44.1 h39
        obtain ⟨a48, cq49, N50, v51, y52, z53, rfl, H54, lo55, C56⟩ := hol47.sl (fun _ => rfl)
        have sm_a48 := H54.small
        refine W.op (v := .tuple ⟨[.slice a48 ((invS x l).length) cq49, .nilIface]⟩) (fr1 := ⟨[_, _, _, _, _, _, _, _, _, _, _, _, _, _, _, _, _, _, _, _, _, _, _, _, _, _, _, _, _, _, _, _, _, _, .tuple ⟨[.slice a48 ((invS x l).length) cq49, .nilIface]⟩, _, _, _, _, _, _, _, _, _, _, _, _, _, _, _, _, _, _, _, _, _, _, _, _, _, _, _, _, _, _, _, _, _, _, _, _], []⟩) rfl rfl rfl rfl ?_
        refine W.op (v := .slice a48 ((invS x l).length) cq49) (fr1 := ⟨[_, _, _, _, _, _, _, _, _, _, _, _, _, _, _, _, _, _, _, _, _, _, _, _, _, _, _, _, _, _, _, _, _, _, _, _, _, _, .slice a48 ((invS x l).length) cq49, _, _, _, _, _, _, _, _, _, _, _, _, _, _, _, _, _, _, _, _, _, _, _, _, _, _, _, _, _, _, _, _], []⟩) rfl rfl rfl rfl ?_
        refine W.op (v := .nilIface) (fr1 := ⟨[_, _, _, _, _, _, _, _, _, _, _, _, _, _, _, _, _, _, _, _, _, _, _, _, _, _, _, _, _, _, _, _, _, _, _, _, _, _, _, .nilIface, _, _, _, _, _, _, _, _, _, _, _, _, _, _, _, _, _, _, _, _, _, _, _, _, _, _, _, _, _, _, _], []⟩) rfl rfl rfl rfl ?_
        refine W.op (v := .slice a48 ((invS x l).length) cq49) (fr1 := ⟨[_, _, _, _, _, _, _, _, _, _, .slice a48 ((invS x l).length) cq49, _, _, _, _, _, _, _, _, _, _, _, _, _, _, _, _, _, _, _, _, _, _, _, _, _, _, _, _, _, _, _, _, _, _, _, _, _, _, _, _, _, _, _, _, _, _, _, _, _, _, _, _, _, _, _, _, _, _, _, _], []⟩) rfl rfl rfl rfl ?_
        refine W.op (v := .nilIface) (fr1 := ⟨[_, _, _, _, _, _, _, _, _, _, _, .nilIface, _, _, _, _, _, _, _, _, _, _, _, _, _, _, _, _, _, _, _, _, _, _, _, _, _, _, _, _, _, _, _, _, _, _, _, _, _, _, _, _, _, _, _, _, _, _, _, _, _, _, _, _, _, _, _, _, _, _, _], []⟩) rfl rfl rfl rfl ?_
        refine EndsOps.nil ?_
        refine Ends.seq ?_
        refine Ends.region ?_
        refine W.op (v := .string x) (fr1 := ⟨[_, _, _, _, _, _, _, _, _, _, _, _, _, _, _, _, _, _, _, _, _, _, _, _, _, _, _, _, _, _, _, _, _, _, _, _, _, _, _, _, _, .string x, _, _, _, _, _, _, _, _, _, _, _, _, _, _, _, _, _, _, _, _, _, _, _, _, _, _, _, _, _], []⟩) rfl rfl rfl rfl ?_
        refine W.op (v := .slice al l.length cl) (fr1 := ⟨[_, _, _, _, _, _, _, _, _, _, _, _, _, _, _, _, _, _, _, _, _, _, _, _, _, _, _, _, _, _, _, _, _, _, _, _, _, _, _, _, _, _, .slice al l.length cl, _, _, _, _, _, _, _, _, _, _, _, _, _, _, _, _, _, _, _, _, _, _, _, _, _, _, _, _], []⟩) rfl rfl rfl rfl ?_
        refine W.callE (ar := [.string x, .slice al l.length cl]) (fF := fun v57 => ⟨[_, _, _, _, _, _, _, _, _, _, _, _, _, _, _, _, _, _, _, _, _, _, _, _, _, _, _, _, _, _, _, _, _, _, _, _, _, _, _, _, _, _, _, v57, _, _, _, _, _, _, _, _, _, _, _, _, _, _, _, _, _, _, _, _, _, _, _, _, _, _, _], []⟩) hO42 rfl rfl rfl rfl (c32T x hx _ l _ _ _ _ _ _ hS hB h30 C _ (Hl.own hO42)) (fun _ => rfl) ?_
        intro v57 s58 hR61 hO59 hS60
        have hE62 := hE45.trans hS60
        have hE63 := (Own.refl s41).trans hS60
        obtain ⟨w64, rfl, hol65⟩ := hR61.1 (e2.1 h39)
        obtain ⟨a66, cq67, N68, v69, y70, z71, rfl, H72, lo73, C74⟩ := hol65.sl (fun _ => rfl)
        have sm_a66 := H72.small
        refine W.op (v := .tuple ⟨[.slice a66 ((invS x l).length) cq67, .int .i64 0]⟩) (fr1 := ⟨[_, _, _, _, _, _, _, _, _, _, _, _, _, _, _, _, _, _, _, _, _, _, _, _, _, _, _, _, _, _, _, _, _, _, _, _, _, _, _, _, .tuple ⟨[.slice a66 ((invS x l).length) cq67, .int .i64 0]⟩, _, _, _, _, _, _, _, _, _, _, _, _, _, _, _, _, _, _, _, _, _, _, _, _, _, _, _, _, _, _], []⟩) rfl rfl rfl rfl ?_
        refine W.op (v := .slice a66 ((invS x l).length) cq67) (fr1 := ⟨[_, _, _, _, _, _, _, _, _, _, _, _, _, _, _, _, _, _, _, _, _, _, _, _, _, _, _, _, _, _, _, _, _, _, _, _, _, _, _, _, _, _, _, _, .slice a66 ((invS x l).length) cq67, _, _, _, _, _, _, _, _, _, _, _, _, _, _, _, _, _, _, _, _, _, _, _, _, _, _], []⟩) rfl rfl rfl rfl ?_
        refine W.op (v := .int .i64 0) (fr1 := ⟨[_, _, _, _, _, _, _, _, _, _, _, _, _, _, _, _, _, _, _, _, _, _, _, _, _, _, _, _, _, _, _, _, _, _, _, _, _, _, _, _, _, _, _, _, _, .int .i64 0, _, _, _, _, _, _, _, _, _, _, _, _, _, _, _, _, _, _, _, _, _, _, _, _, _], []⟩) rfl rfl rfl rfl ?_
        refine W.op (v := .slice a66 ((invS x l).length) cq67) (fr1 := ⟨[_, _, _, _, _, _, _, _, _, _, _, _, .slice a66 ((invS x l).length) cq67, _, _, _, _, _, _, _, _, _, _, _, _, _, _, _, _, _, _, _, _, _, _, _, _, _, _, _, _, _, _, _, _, _, _, _, _, _, _, _, _, _, _, _, _, _, _, _, _, _, _, _, _, _, _, _, _, _, _], []⟩) rfl rfl rfl rfl ?_
        refine W.op (v := .int .i64 0) (fr1 := ⟨[_, _, _, _, _, _, _, _, _, _, _, _, _, .int .i64 0, _, _, _, _, _, _, _, _, _, _, _, _, _, _, _, _, _, _, _, _, _, _, _, _, _, _, _, _, _, _, _, _, _, _, _, _, _, _, _, _, _, _, _, _, _, _, _, _, _, _, _, _, _, _, _, _, _], []⟩) rfl rfl rfl rfl ?_
        refine EndsOps.nil ?_
        refine Ends.seq ?_
        refine Ends.region ?_
        refine W.op (v := .string (apS x l)) (fr1 := ⟨[_, _, _, _, _, _, _, _, _, _, _, _, _, _, _, _, _, _, _, _, _, _, _, _, _, _, _, _, _, _, _, _, _, _, _, _, _, _, _, _, _, _, _, _, _, _, .string (apS x l), _, _, _, _, _, _, _, _, _, _, _, _, _, _, _, _, _, _, _, _, _, _, _, _], []⟩) rfl rfl rfl rfl ?_
        refine W.op (v := .string (rapS x l)) (fr1 := ⟨[_, _, _, _, _, _, _, _, _, _, _, _, _, _, _, _, _, _, _, _, _, _, _, _, _, _, _, _, _, _, _, _, _, _, _, _, _, _, _, _, _, _, _, _, _, _, _, .string (rapS x l), _, _, _, _, _, _, _, _, _, _, _, _, _, _, _, _, _, _, _, _, _, _, _], []⟩) rfl rfl rfl rfl ?_
        refine W.op (v := .bool true) (fr1 := ⟨[_, _, _, _, _, _, _, _, _, _, _, _, _, _, _, _, _, _, _, _, _, _, _, _, _, _, _, _, _, _, _, _, _, _, _, _, _, _, _, _, _, _, _, _, _, _, _, _, .bool true, _, _, _, _, _, _, _, _, _, _, _, _, _, _, _, _, _, _, _, _, _, _], []⟩) rfl (p_bin (seqT e1)) rfl rfl ?_
        refine W.op (v := .bool true) (fr1 := ⟨[_, _, _, _, _, _, _, _, _, _, _, _, _, _, _, _, _, _, _, _, _, _, _, _, _, _, _, _, _, _, _, _, _, _, _, _, _, _, _, _, _, _, _, _, _, _, _, _, _, .bool true, _, _, _, _, _, _, _, _, _, _, _, _, _, _, _, _, _, _, _, _, _], []⟩) rfl rfl rfl rfl ?_
        refine W.op (v := .nilIface) (fr1 := ⟨[_, _, _, _, _, _, _, _, _, _, _, _, _, _, _, _, _, _, _, _, _, _, _, _, _, _, _, _, _, _, _, _, _, _, _, _, _, _, _, _, _, _, _, _, _, _, _, _, _, _, .nilIface, _, _, _, _, _, _, _, _, _, _, _, _, _, _, _, _, _, _, _, _], []⟩) rfl rfl rfl rfl ?_
        refine W.call (ar := [.nilIface]) (X := .int .i64 0) (fr1 := ⟨[_, _, _, _, _, _, _, _, _, _, _, _, _, _, _, _, _, _, _, _, _, _, _, _, _, _, _, _, _, _, _, _, _, _, _, _, _, _, _, _, _, _, _, _, _, _, _, _, _, _, _, .int .i64 0, _, _, _, _, _, _, _, _, _, _, _, _, _, _, _, _, _, _, _], []⟩) hO59 rfl rfl rfl rfl (c22n _) rfl ?_
        intro s75 hO76 hS77
        have hE78 := hE62.trans hS77
        have hE79 := hE63.trans hS77
        have hE80 := (Own.refl s58).trans hS77
        refine W.op (v := .int .i64 0) (fr1 := ⟨[_, _, _, _, _, _, _, _, _, _, _, _, _, _, _, _, _, _, _, _, _, _, _, _, _, _, _, _, _, _, _, _, _, _, _, _, _, _, _, _, _, _, _, _, _, _, _, _, _, _, _, _, .int .i64 0, _, _, _, _, _, _, _, _, _, _, _, _, _, _, _, _, _, _], []⟩) rfl rfl rfl rfl ?_
        refine W.op (v := .bool true) (fr1 := ⟨[_, _, _, _, _, _, _, _, _, _, _, _, _, _, _, _, _, _, _, _, _, _, _, _, _, _, _, _, _, _, _, _, _, _, _, _, _, _, _, _, _, _, _, _, _, _, _, _, _, _, _, _, _, .bool true, _, _, _, _, _, _, _, _, _, _, _, _, _, _, _, _, _], []⟩) rfl rfl rfl rfl ?_
        refine W.op (v := .bool true) (fr1 := ⟨[_, _, _, _, _, _, _, _, _, _, _, _, _, _, _, _, _, _, _, _, _, _, _, _, _, _, _, _, _, _, _, _, _, _, _, _, _, _, _, _, _, _, _, _, _, _, _, _, _, _, _, _, _, _, .bool true, _, _, _, _, _, _, _, _, _, _, _, _, _, _, _, _], []⟩) rfl rfl rfl rfl ?_
        refine W.op (v := .bool true) (fr1 := ⟨[_, _, _, _, _, _, _, _, _, _, _, _, _, _, _, _, _, _, _, _, _, _, _, _, _, _, _, _, _, _, _, _, _, _, _, _, _, _, _, _, _, _, _, _, _, _, _, _, _, _, _, _, _, _, _, .bool true, _, _, _, _, _, _, _, _, _, _, _, _, _, _, _], []⟩) rfl rfl rfl rfl ?_
        refine W.op (v := .nilIface) (fr1 := ⟨[_, _, _, _, _, _, _, _, _, _, _, _, _, _, _, _, _, _, _, _, _, _, _, _, _, _, _, _, _, _, _, _, _, _, _, _, _, _, _, _, _, _, _, _, _, _, _, _, _, _, _, _, _, _, _, _, .nilIface, _, _, _, _, _, _, _, _, _, _, _, _, _, _], []⟩) rfl rfl rfl rfl ?_
        refine W.call (ar := [.nilIface]) (X := .int .i64 0) (fr1 := ⟨[_, _, _, _, _, _, _, _, _, _, _, _, _, _, _, _, _, _, _, _, _, _, _, _, _, _, _, _, _, _, _, _, _, _, _, _, _, _, _, _, _, _, _, _, _, _, _, _, _, _, _, _, _, _, _, _, _, .int .i64 0, _, _, _, _, _, _, _, _, _, _, _, _, _], []⟩) hO76 rfl rfl rfl rfl (c22n _) rfl ?_
        intro s81 hO82 hS83
        have hE84 := hE78.trans hS83
        have hE85 := hE79.trans hS83
        have hE86 := hE80.trans hS83
        refine W.op (v := .int .i64 0) (fr1 := ⟨[_, _, _, _, _, _, _, _, _, _, _, _, _, _, _, _, _, _, _, _, _, _, _, _, _, _, _, _, _, _, _, _, _, _, _, _, _, _, _, _, _, _, _, _, _, _, _, _, _, _, _, _, _, _, _, _, _, _, .int .i64 0, _, _, _, _, _, _, _, _, _, _, _, _], []⟩) rfl rfl rfl rfl ?_
        refine W.op (v := .bool true) (fr1 := ⟨[_, _, _, _, _, _, _, _, _, _, _, _, _, _, _, _, _, _, _, _, _, _, _, _, _, _, _, _, _, _, _, _, _, _, _, _, _, _, _, _, _, _, _, _, _, _, _, _, _, _, _, _, _, _, _, _, _, _, _, .bool true, _, _, _, _, _, _, _, _, _, _, _], []⟩) rfl rfl rfl rfl ?_
        refine W.op (v := .bool true) (fr1 := ⟨[_, _, _, _, _, _, _, _, _, _, _, _, _, _, _, _, _, _, _, _, _, _, _, _, _, _, _, _, _, _, _, _, _, _, _, _, _, _, _, _, _, _, _, _, _, _, _, _, _, _, _, _, _, _, _, _, _, _, _, _, .bool true, _, _, _, _, _, _, _, _, _, _], []⟩) rfl rfl rfl rfl ?_
        refine W.op (v := .bool true) (fr1 := ⟨[_, _, _, _, _, _, _, _, _, _, _, _, _, _, _, _, _, _, _, _, _, _, _, _, _, _, _, _, _, _, _, _, _, _, _, _, _, _, _, _, _, _, _, _, _, _, _, _, _, _, _, _, _, _, _, _, _, _, _, _, _, .bool true, _, _, _, _, _, _, _, _, _], []⟩) rfl rfl rfl rfl ?_
        refine W.op (v := .slice a48 ((invS x l).length) cq49) (fr1 := ⟨[_, _, _, _, _, _, _, _, _, _, _, _, _, _, _, _, _, _, _, _, _, _, _, _, _, _, _, _, _, _, _, _, _, _, _, _, _, _, _, _, _, _, _, _, _, _, _, _, _, _, _, _, _, _, _, _, _, _, _, _, _, _, .slice a48 ((invS x l).length) cq49, _, _, _, _, _, _, _, _], []⟩) rfl rfl rfl rfl ?_
        refine W.op (v := .slice a66 ((invS x l).length) cq67) (fr1 := ⟨[_, _, _, _, _, _, _, _, _, _, _, _, _, _, _, _, _, _, _, _, _, _, _, _, _, _, _, _, _, _, _, _, _, _, _, _, _, _, _, _, _, _, _, _, _, _, _, _, _, _, _, _, _, _, _, _, _, _, _, _, _, _, _, .slice a66 ((invS x l).length) cq67, _, _, _, _, _, _, _], []⟩) rfl rfl rfl rfl ?_
        refine W.call (ar := [.slice a48 ((invS x l).length) cq49, .slice a66 ((invS x l).length) cq67]) (X := .bool true) (fr1 := ⟨[_, _, _, _, _, _, _, _, _, _, _, _, _, _, _, _, _, _, _, _, _, _, _, _, _, _, _, _, _, _, _, _, _, _, _, _, _, _, _, _, _, _, _, _, _, _, _, _, _, _, _, _, _, _, _, _, _, _, _, _, _, _, _, _, .bool true, _, _, _, _, _, _], []⟩) hO82 rfl rfl rfl rfl ((c33 _ _ _ _ _ _ _ _ _ _ _ _ _ _ _ _ _ (H54.own hE85) (H72.own hE86)).mono fun v _ _ g => g.trans (congrArg Value.bool (decide_eq_true rfl))) rfl ?_
        intro s87 hO88 hS89
        have hE90 := hE84.trans hS89
        have hE91 := hE85.trans hS89
        have hE92 := hE86.trans hS89
        refine W.op (v := .bool true) (fr1 := ⟨[_, _, _, _, _, _, _, _, _, _, _, _, _, _, _, _, _, _, _, _, _, _, _, _, _, _, _, _, _, _, _, _, _, _, _, _, _, _, _, _, _, _, _, _, _, _, _, _, _, _, _, _, _, _, _, _, _, _, _, _, _, _, _, _, _, .bool true, _, _, _, _, _], []⟩) rfl rfl rfl rfl ?_
        refine W.op (v := .bool true) (fr1 := ⟨[_, _, _, _, _, _, _, _, _, _, _, _, _, _, _, _, _, _, _, _, _, _, _, _, _, _, _, _, _, _, _, _, _, _, _, _, _, _, _, _, _, _, _, _, _, _, _, _, _, _, _, _, _, _, _, _, _, _, _, _, _, _, _, _, _, _, .bool true, _, _, _, _], []⟩) rfl rfl rfl rfl ?_
        refine W.op (v := .slice a21 l.length cq22) (fr1 := ⟨[_, _, _, _, _, _, _, _, _, _, _, _, _, _, _, _, _, _, _, _, _, _, _, _, _, _, _, _, _, _, _, _, _, _, _, _, _, _, _, _, _, _, _, _, _, _, _, _, _, _, _, _, _, _, _, _, _, _, _, _, _, _, _, _, _, _, _, .slice a21 l.length cq22, _, _, _], []⟩) rfl rfl rfl rfl ?_
        refine W.op (v := .slice al l.length cl) (fr1 := ⟨[_, _, _, _, _, _, _, _, _, _, _, _, _, _, _, _, _, _, _, _, _, _, _, _, _, _, _, _, _, _, _, _, _, _, _, _, _, _, _, _, _, _, _, _, _, _, _, _, _, _, _, _, _, _, _, _, _, _, _, _, _, _, _, _, _, _, _, _, .slice al l.length cl, _, _], []⟩) rfl rfl rfl rfl ?_
        refine W.call (ar := [.slice a21 l.length cq22, .slice al l.length cl]) (X := .bool true) (fr1 := ⟨[_, _, _, _, _, _, _, _, _, _, _, _, _, _, _, _, _, _, _, _, _, _, _, _, _, _, _, _, _, _, _, _, _, _, _, _, _, _, _, _, _, _, _, _, _, _, _, _, _, _, _, _, _, _, _, _, _, _, _, _, _, _, _, _, _, _, _, _, _, .bool true, _], []⟩) hO88 rfl rfl rfl rfl ((c33 _ _ _ _ _ _ _ _ _ _ _ _ _ _ _ _ _ (H27.own hE90) (Hl.own hO88)).mono fun v _ _ g => g.trans (congrArg Value.bool (decide_eq_true rfl))) rfl ?_
        intro s93 hO94 hS95
        have hE96 := hE90.trans hS95
        have hE97 := hE91.trans hS95
        have hE98 := hE92.trans hS95
        refine W.op (v := .bool true) (fr1 := ⟨[_, _, _, _, _, _, _, _, _, _, _, _, _, _, _, _, _, _, _, _, _, _, _, _, _, _, _, _, _, _, _, _, _, _, _, _, _, _, _, _, _, _, _, _, _, _, _, _, _, _, _, _, _, _, _, _, _, _, _, _, _, _, _, _, _, _, _, _, _, _, .bool true], []⟩) rfl rfl rfl rfl ?_
        refine W.op (v := .bool true) (fr1 := ⟨[_, _, _, _, .bool true, _, _, _, _, _, _, _, _, _, _, _, _, _, _, _, _, _, _, _, _, _, _, _, _, _, _, _, _, _, _, _, _, _, _, _, _, _, _, _, _, _, _, _, _, _, _, _, _, _, _, _, _, _, _, _, _, _, _, _, _, _, _, _, _, _, _], []⟩) rfl rfl rfl rfl ?_
        refine EndsOps.nil ?_
        refine Ends.ret ?_
        exact ⟨rfl, rfl, hO94, by
          show Value.bool true = Value.bool true
          rfl⟩
      · skip
        refine W.callE (ar := [.string x, .slice a21 l.length cq22]) (fF := fun v99 => ⟨[_, _, _, _, _, _, _, _, _, _, _, _, _, _, _, _, _, _, _, _, _, _, _, _, _, _, _, _, _, _, _, _, _, _, _, _, _, v99, _, _, _, _, _, _, _, _, _, _, _, _, _, _, _, _, _, _, _, _, _, _, _, _, _, _, _, _, _, _, _, _, _], []⟩) hO36 rfl rfl rfl rfl (c31T x hx _ l _ _ _ _ _ _ hS hB h30  _ (H27.own hE38)) (fun _ => rfl) ?_
        intro v99 s100 hR103 hO101 hS102
        have hE104 := hE38.trans hS102
        obtain rfl := hR103.2 h39
        refine W.op (v := .tuple ⟨[.slice none 0 0, .iface 37 (.int .i64 6)]⟩) (fr1 := ⟨[_, _, _, _, _, _, _, _, _, _, _, _, _, _, _, _, _, _, _, _, _, _, _, _, _, _, _, _, _, _, _, _, _, _, .tuple ⟨[.slice none 0 0, .iface 37 (.int .i64 6)]⟩, _, _, _, _, _, _, _, _, _, _, _, _, _, _, _, _, _, _, _, _, _, _, _, _, _, _, _, _, _, _, _, _, _, _, _, _], []⟩) rfl rfl rfl rfl ?_
        refine W.op (v := .slice none 0 0) (fr1 := ⟨[_, _, _, _, _, _, _, _, _, _, _, _, _, _, _, _, _, _, _, _, _, _, _, _, _, _, _, _, _, _, _, _, _, _, _, _, _, _, .slice none 0 0, _, _, _, _, _, _, _, _, _, _, _, _, _, _, _, _, _, _, _, _, _, _, _, _, _, _, _, _, _, _, _, _], []⟩) rfl rfl rfl rfl ?_
        refine W.op (v := .iface 37 (.int .i64 6)) (fr1 := ⟨[_, _, _, _, _, _, _, _, _, _, _, _, _, _, _, _, _, _, _, _, _, _, _, _, _, _, _, _, _, _, _, _, _, _, _, _, _, _, _, .iface 37 (.int .i64 6), _, _, _, _, _, _, _, _, _, _, _, _, _, _, _, _, _, _, _, _, _, _, _, _, _, _, _, _, _, _, _], []⟩) rfl rfl rfl rfl ?_
        refine W.op (v := .slice none 0 0) (fr1 := ⟨[_, _, _, _, _, _, _, _, _, _, .slice none 0 0, _, _, _, _, _, _, _, _, _, _, _, _, _, _, _, _, _, _, _, _, _, _, _, _, _, _, _, _, _, _, _, _, _, _, _, _, _, _, _, _, _, _, _, _, _, _, _, _, _, _, _, _, _, _, _, _, _, _, _, _], []⟩) rfl rfl rfl rfl ?_
        refine W.op (v := .iface 37 (.int .i64 6)) (fr1 := ⟨[_, _, _, _, _, _, _, _, _, _, _, .iface 37 (.int .i64 6), _, _, _, _, _, _, _, _, _, _, _, _, _, _, _, _, _, _, _, _, _, _, _, _, _, _, _, _, _, _, _, _, _, _, _, _, _, _, _, _, _, _, _, _, _, _, _, _, _, _, _, _, _, _, _, _, _, _, _], []⟩) rfl rfl rfl rfl ?_
        refine EndsOps.nil ?_
        refine Ends.seq ?_
        refine Ends.region ?_
        refine W.op (v := .string x) (fr1 := ⟨[_, _, _, _, _, _, _, _, _, _, _, _, _, _, _, _, _, _, _, _, _, _, _, _, _, _, _, _, _, _, _, _, _, _, _, _, _, _, _, _, _, .string x, _, _, _, _, _, _, _, _, _, _, _, _, _, _, _, _, _, _, _, _, _, _, _, _, _, _, _, _, _], []⟩) rfl rfl rfl rfl ?_
        refine W.op (v := .slice al l.length cl) (fr1 := ⟨[_, _, _, _, _, _, _, _, _, _, _, _, _, _, _, _, _, _, _, _, _, _, _, _, _, _, _, _, _, _, _, _, _, _, _, _, _, _, _, _, _, _, .slice al l.length cl, _, _, _, _, _, _, _, _, _, _, _, _, _, _, _, _, _, _, _, _, _, _, _, _, _, _, _, _], []⟩) rfl rfl rfl rfl ?_
        refine W.callE (ar := [.string x, .slice al l.length cl]) (fF := fun v105 => ⟨[_, _, _, _, _, _, _, _, _, _, _, _, _, _, _, _, _, _, _, _, _, _, _, _, _, _, _, _, _, _, _, _, _, _, _, _, _, _, _, _, _, _, _, v105, _, _, _, _, _, _, _, _, _, _, _, _, _, _, _, _, _, _, _, _, _, _, _, _, _, _, _], []⟩) hO101 rfl rfl rfl rfl (c32T x hx _ l _ _ _ _ _ _ hS hB h30 C _ (Hl.own hO101)) (fun _ => rfl) ?_
        intro v105 s106 hR109 hO107 hS108
        have hE110 := hE104.trans hS108
        have hE111 := (Own.refl s100).trans hS108
        obtain rfl := hR109.2 (fun h => h39 (e2.2 h))
        refine W.op (v := .tuple ⟨[.slice none 0 0, .int .i64 6]⟩) (fr1 := ⟨[_, _, _, _, _, _, _, _, _, _, _, _, _, _, _, _, _, _, _, _, _, _, _, _, _, _, _, _, _, _, _, _, _, _, _, _, _, _, _, _, .tuple ⟨[.slice none 0 0, .int .i64 6]⟩, _, _, _, _, _, _, _, _, _, _, _, _, _, _, _, _, _, _, _, _, _, _, _, _, _, _, _, _, _, _], []⟩) rfl rfl rfl rfl ?_
        refine W.op (v := .slice none 0 0) (fr1 := ⟨[_, _, _, _, _, _, _, _, _, _, _, _, _, _, _, _, _, _, _, _, _, _, _, _, _, _, _, _, _, _, _, _, _, _, _, _, _, _, _, _, _, _, _, _, .slice none 0 0, _, _, _, _, _, _, _, _, _, _, _, _, _, _, _, _, _, _, _, _, _, _, _, _, _, _], []⟩) rfl rfl rfl rfl ?_
        refine W.op (v := .int .i64 6) (fr1 := ⟨[_, _, _, _, _, _, _, _, _, _, _, _, _, _, _, _, _, _, _, _, _, _, _, _, _, _, _, _, _, _, _, _, _, _, _, _, _, _, _, _, _, _, _, _, _, .int .i64 6, _, _, _, _, _, _, _, _, _, _, _, _, _, _, _, _, _, _, _, _, _, _, _, _, _], []⟩) rfl rfl rfl rfl ?_
        refine W.op (v := .slice none 0 0) (fr1 := ⟨[_, _, _, _, _, _, _, _, _, _, _, _, .slice none 0 0, _, _, _, _, _, _, _, _, _, _, _, _, _, _, _, _, _, _, _, _, _, _, _, _, _, _, _, _, _, _, _, _, _, _, _, _, _, _, _, _, _, _, _, _, _, _, _, _, _, _, _, _, _, _, _, _, _, _], []⟩) rfl rfl rfl rfl ?_
        refine W.op (v := .int .i64 6) (fr1 := ⟨[_, _, _, _, _, _, _, _, _, _, _, _, _, .int .i64 6, _, _, _, _, _, _, _, _, _, _, _, _, _, _, _, _, _, _, _, _, _, _, _, _, _, _, _, _, _, _, _, _, _, _, _, _, _, _, _, _, _, _, _, _, _, _, _, _, _, _, _, _, _, _, _, _, _], []⟩) rfl rfl rfl rfl ?_
        refine EndsOps.nil ?_
        refine Ends.seq ?_
        refine Ends.region ?_
        refine W.op (v := .string (apS x l)) (fr1 := ⟨[_, _, _, _, _, _, _, _, _, _, _, _, _, _, _, _, _, _, _, _, _, _, _, _, _, _, _, _, _, _, _, _, _, _, _, _, _, _, _, _, _, _, _, _, _, _, .string (apS x l), _, _, _, _, _, _, _, _, _, _, _, _, _, _, _, _, _, _, _, _, _, _, _, _], []⟩) rfl rfl rfl rfl ?_
        refine W.op (v := .string (rapS x l)) (fr1 := ⟨[_, _, _, _, _, _, _, _, _, _, _, _, _, _, _, _, _, _, _, _, _, _, _, _, _, _, _, _, _, _, _, _, _, _, _, _, _, _, _, _, _, _, _, _, _, _, _, .string (rapS x l), _, _, _, _, _, _, _, _, _, _, _, _, _, _, _, _, _, _, _, _, _, _, _], []⟩) rfl rfl rfl rfl ?_
        refine W.op (v := .bool true) (fr1 := ⟨[_, _, _, _, _, _, _, _, _, _, _, _, _, _, _, _, _, _, _, _, _, _, _, _, _, _, _, _, _, _, _, _, _, _, _, _, _, _, _, _, _, _, _, _, _, _, _, _, .bool true, _, _, _, _, _, _, _, _, _, _, _, _, _, _, _, _, _, _, _, _, _, _], []⟩) rfl (p_bin (seqT e1)) rfl rfl ?_
        refine W.op (v := .bool true) (fr1 := ⟨[_, _, _, _, _, _, _, _, _, _, _, _, _, _, _, _, _, _, _, _, _, _, _, _, _, _, _, _, _, _, _, _, _, _, _, _, _, _, _, _, _, _, _, _, _, _, _, _, _, .bool true, _, _, _, _, _, _, _, _, _, _, _, _, _, _, _, _, _, _, _, _, _], []⟩) rfl rfl rfl rfl ?_
        refine W.op (v := .nilIface) (fr1 := ⟨[_, _, _, _, _, _, _, _, _, _, _, _, _, _, _, _, _, _, _, _, _, _, _, _, _, _, _, _, _, _, _, _, _, _, _, _, _, _, _, _, _, _, _, _, _, _, _, _, _, _, .nilIface, _, _, _, _, _, _, _, _, _, _, _, _, _, _, _, _, _, _, _, _], []⟩) rfl rfl rfl rfl ?_
        refine W.call (ar := [.nilIface]) (X := .int .i64 0) (fr1 := ⟨[_, _, _, _, _, _, _, _, _, _, _, _, _, _, _, _, _, _, _, _, _, _, _, _, _, _, _, _, _, _, _, _, _, _, _, _, _, _, _, _, _, _, _, _, _, _, _, _, _, _, _, .int .i64 0, _, _, _, _, _, _, _, _, _, _, _, _, _, _, _, _, _, _, _], []⟩) hO107 rfl rfl rfl rfl (c22n _) rfl ?_
        intro s112 hO113 hS114
        have hE115 := hE110.trans hS114
        have hE116 := hE111.trans hS114
        have hE117 := (Own.refl s106).trans hS114
        refine W.op (v := .int .i64 0) (fr1 := ⟨[_, _, _, _, _, _, _, _, _, _, _, _, _, _, _, _, _, _, _, _, _, _, _, _, _, _, _, _, _, _, _, _, _, _, _, _, _, _, _, _, _, _, _, _, _, _, _, _, _, _, _, _, .int .i64 0, _, _, _, _, _, _, _, _, _, _, _, _, _, _, _, _, _, _], []⟩) rfl rfl rfl rfl ?_
        refine W.op (v := .bool true) (fr1 := ⟨[_, _, _, _, _, _, _, _, _, _, _, _, _, _, _, _, _, _, _, _, _, _, _, _, _, _, _, _, _, _, _, _, _, _, _, _, _, _, _, _, _, _, _, _, _, _, _, _, _, _, _, _, _, .bool true, _, _, _, _, _, _, _, _, _, _, _, _, _, _, _, _, _], []⟩) rfl rfl rfl rfl ?_
        refine W.op (v := .bool true) (fr1 := ⟨[_, _, _, _, _, _, _, _, _, _, _, _, _, _, _, _, _, _, _, _, _, _, _, _, _, _, _, _, _, _, _, _, _, _, _, _, _, _, _, _, _, _, _, _, _, _, _, _, _, _, _, _, _, _, .bool true, _, _, _, _, _, _, _, _, _, _, _, _, _, _, _, _], []⟩) rfl rfl rfl rfl ?_
        refine W.op (v := .bool true) (fr1 := ⟨[_, _, _, _, _, _, _, _, _, _, _, _, _, _, _, _, _, _, _, _, _, _, _, _, _, _, _, _, _, _, _, _, _, _, _, _, _, _, _, _, _, _, _, _, _, _, _, _, _, _, _, _, _, _, _, .bool true, _, _, _, _, _, _, _, _, _, _, _, _, _, _, _], []⟩) rfl rfl rfl rfl ?_
        refine W.op (v := .iface 37 (.int .i64 6)) (fr1 := ⟨[_, _, _, _, _, _, _, _, _, _, _, _, _, _, _, _, _, _, _, _, _, _, _, _, _, _, _, _, _, _, _, _, _, _, _, _, _, _, _, _, _, _, _, _, _, _, _, _, _, _, _, _, _, _, _, _, .iface 37 (.int .i64 6), _, _, _, _, _, _, _, _, _, _, _, _, _, _], []⟩) rfl rfl rfl rfl ?_
        refine W.call (ar := [.iface 37 (.int .i64 6)]) (X := .int .i64 6) (fr1 := ⟨[_, _, _, _, _, _, _, _, _, _, _, _, _, _, _, _, _, _, _, _, _, _, _, _, _, _, _, _, _, _, _, _, _, _, _, _, _, _, _, _, _, _, _, _, _, _, _, _, _, _, _, _, _, _, _, _, _, .int .i64 6, _, _, _, _, _, _, _, _, _, _, _, _, _], []⟩) hO113 rfl rfl rfl rfl (c22 _ (by decide) _) rfl ?_
        intro s118 hO119 hS120
        have hE121 := hE115.trans hS120
        have hE122 := hE116.trans hS120
        have hE123 := hE117.trans hS120
        refine W.op (v := .int .i64 6) (fr1 := ⟨[_, _, _, _, _, _, _, _, _, _, _, _, _, _, _, _, _, _, _, _, _, _, _, _, _, _, _, _, _, _, _, _, _, _, _, _, _, _, _, _, _, _, _, _, _, _, _, _, _, _, _, _, _, _, _, _, _, _, .int .i64 6, _, _, _, _, _, _, _, _, _, _, _, _], []⟩) rfl rfl rfl rfl ?_
        refine W.op (v := .bool true) (fr1 := ⟨[_, _, _, _, _, _, _, _, _, _, _, _, _, _, _, _, _, _, _, _, _, _, _, _, _, _, _, _, _, _, _, _, _, _, _, _, _, _, _, _, _, _, _, _, _, _, _, _, _, _, _, _, _, _, _, _, _, _, _, .bool true, _, _, _, _, _, _, _, _, _, _, _], []⟩) rfl rfl rfl rfl ?_
        refine W.op (v := .bool true) (fr1 := ⟨[_, _, _, _, _, _, _, _, _, _, _, _, _, _, _, _, _, _, _, _, _, _, _, _, _, _, _, _, _, _, _, _, _, _, _, _, _, _, _, _, _, _, _, _, _, _, _, _, _, _, _, _, _, _, _, _, _, _, _, _, .bool true, _, _, _, _, _, _, _, _, _, _], []⟩) rfl rfl rfl rfl ?_
        refine W.op (v := .bool true) (fr1 := ⟨[_, _, _, _, _, _, _, _, _, _, _, _, _, _, _, _, _, _, _, _, _, _, _, _, _, _, _, _, _, _, _, _, _, _, _, _, _, _, _, _, _, _, _, _, _, _, _, _, _, _, _, _, _, _, _, _, _, _, _, _, _, .bool true, _, _, _, _, _, _, _, _, _], []⟩) rfl rfl rfl rfl ?_
        refine W.op (v := .slice none 0 0) (fr1 := ⟨[_, _, _, _, _, _, _, _, _, _, _, _, _, _, _, _, _, _, _, _, _, _, _, _, _, _, _, _, _, _, _, _, _, _, _, _, _, _, _, _, _, _, _, _, _, _, _, _, _, _, _, _, _, _, _, _, _, _, _, _, _, _, .slice none 0 0, _, _, _, _, _, _, _, _], []⟩) rfl rfl rfl rfl ?_
        refine W.op (v := .slice none 0 0) (fr1 := ⟨[_, _, _, _, _, _, _, _, _, _, _, _, _, _, _, _, _, _, _, _, _, _, _, _, _, _, _, _, _, _, _, _, _, _, _, _, _, _, _, _, _, _, _, _, _, _, _, _, _, _, _, _, _, _, _, _, _, _, _, _, _, _, _, .slice none 0 0, _, _, _, _, _, _, _], []⟩) rfl rfl rfl rfl ?_
        refine W.call (ar := [.slice none 0 0, .slice none 0 0]) (X := .bool true) (fr1 := ⟨[_, _, _, _, _, _, _, _, _, _, _, _, _, _, _, _, _, _, _, _, _, _, _, _, _, _, _, _, _, _, _, _, _, _, _, _, _, _, _, _, _, _, _, _, _, _, _, _, _, _, _, _, _, _, _, _, _, _, _, _, _, _, _, _, .bool true, _, _, _, _, _, _], []⟩) hO119 rfl rfl rfl rfl ((c33 _ _ _ _ _ _ _ _ _ _ _ _ _ _ _ _ _ (Sl.nil _ _) (Sl.nil _ _)).mono fun v _ _ g => g.trans (congrArg Value.bool (decide_eq_true rfl))) rfl ?_
        intro s124 hO125 hS126
        have hE127 := hE121.trans hS126
        have hE128 := hE122.trans hS126
        have hE129 := hE123.trans hS126
        refine W.op (v := .bool true) (fr1 := ⟨[_, _, _, _, _, _, _, _, _, _, _, _, _, _, _, _, _, _, _, _, _, _, _, _, _, _, _, _, _, _, _, _, _, _, _, _, _, _, _, _, _, _, _, _, _, _, _, _, _, _, _, _, _, _, _, _, _, _, _, _, _, _, _, _, _, .bool true, _, _, _, _, _], []⟩) rfl rfl rfl rfl ?_
        refine W.op (v := .bool true) (fr1 := ⟨[_, _, _, _, _, _, _, _, _, _, _, _, _, _, _, _, _, _, _, _, _, _, _, _, _, _, _, _, _, _, _, _, _, _, _, _, _, _, _, _, _, _, _, _, _, _, _, _, _, _, _, _, _, _, _, _, _, _, _, _, _, _, _, _, _, _, .bool true, _, _, _, _], []⟩) rfl rfl rfl rfl ?_
        refine W.op (v := .slice a21 l.length cq22) (fr1 := ⟨[_, _, _, _, _, _, _, _, _, _, _, _, _, _, _, _, _, _, _, _, _, _, _, _, _, _, _, _, _, _, _, _, _, _, _, _, _, _, _, _, _, _, _, _, _, _, _, _, _, _, _, _, _, _, _, _, _, _, _, _, _, _, _, _, _, _, _, .slice a21 l.length cq22, _, _, _], []⟩) rfl rfl rfl rfl ?_
        refine W.op (v := .slice al l.length cl) (fr1 := ⟨[_, _, _, _, _, _, _, _, _, _, _, _, _, _, _, _, _, _, _, _, _, _, _, _, _, _, _, _, _, _, _, _, _, _, _, _, _, _, _, _, _, _, _, _, _, _, _, _, _, _, _, _, _, _, _, _, _, _, _, _, _, _, _, _, _, _, _, _, .slice al l.length cl, _, _], []⟩) rfl rfl rfl rfl ?_
        refine W.call (ar := [.slice a21 l.length cq22, .slice al l.length cl]) (X := .bool true) (fr1 := ⟨[_, _, _, _, _, _, _, _, _, _, _, _, _, _, _, _, _, _, _, _, _, _, _, _, _, _, _, _, _, _, _, _, _, _, _, _, _, _, _, _, _, _, _, _, _, _, _, _, _, _, _, _, _, _, _, _, _, _, _, _, _, _, _, _, _, _, _, _, _, .bool true, _], []⟩) hO125 rfl rfl rfl rfl ((c33 _ _ _ _ _ _ _ _ _ _ _ _ _ _ _ _ _ (H27.own hE127) (Hl.own hO125)).mono fun v _ _ g => g.trans (congrArg Value.bool (decide_eq_true rfl))) rfl ?_
        intro s130 hO131 hS132
        have hE133 := hE127.trans hS132
        have hE134 := hE128.trans hS132
        have hE135 := hE129.trans hS132
        refine W.op (v := .bool true) (fr1 := ⟨[_, _, _, _, _, _, _, _, _, _, _, _, _, _, _, _, _, _, _, _, _, _, _, _, _, _, _, _, _, _, _, _, _, _, _, _, _, _, _, _, _, _, _, _, _, _, _, _, _, _, _, _, _, _, _, _, _, _, _, _, _, _, _, _, _, _, _, _, _, _, .bool true], []⟩) rfl rfl rfl rfl ?_
        refine W.op (v := .bool true) (fr1 := ⟨[_, _, _, _, .bool true, _, _, _, _, _, _, _, _, _, _, _, _, _, _, _, _, _, _, _, _, _, _, _, _, _, _, _, _, _, _, _, _, _, _, _, _, _, _, _, _, _, _, _, _, _, _, _, _, _, _, _, _, _, _, _, _, _, _, _, _, _, _, _, _, _, _], []⟩) rfl rfl rfl rfl ?_
        refine EndsOps.nil ?_
        refine Ends.ret ?_
        exact ⟨rfl, rfl, hO131, by
          show Value.bool true = Value.bool true
          rfl⟩
    · skip
      refine W.call (ar := [.string x, .slice a21 l.length cq22]) (X := .tuple ⟨[.string ByteArray.empty, errV (mayC (B x).length l)]⟩) (fr1 := ⟨[_, _, _, _, _, _, _, _, _, _, _, _, _, _, _, _, _, _, _, _, _, _, _, _, _, .tuple ⟨[.string ByteArray.empty, errV (mayC (B x).length l)]⟩, _, _, _, _, _, _, _, _, _, _, _, _, _, _, _, _, _, _, _, _, _, _, _, _, _, _, _, _, _, _, _, _, _, _, _, _, _, _, _, _, _, _, _, _, _], []⟩) hO18 rfl rfl rfl rfl (c29F x hx _ l _ _ _ _ _ _ h30 _ (H27.own (Own.refl s17))) rfl ?_
      intro s136 hO137 hS138
      have hE139 := (Own.refl s17).trans hS138
      refine W.op (v := .tuple ⟨[.string ByteArray.empty, errV (mayC (B x).length l)]⟩) (fr1 := ⟨[_, _, _, _, _, _, _, _, _, _, _, _, _, _, _, _, _, _, _, _, _, _, .tuple ⟨[.string ByteArray.empty, errV (mayC (B x).length l)]⟩, _, _, _, _, _, _, _, _, _, _, _, _, _, _, _, _, _, _, _, _, _, _, _, _, _, _, _, _, _, _, _, _, _, _, _, _, _, _, _, _, _, _, _, _, _, _, _, _], []⟩) rfl rfl rfl rfl ?_
      refine W.op (v := .string ByteArray.empty) (fr1 := ⟨[_, _, _, _, _, _, _, _, _, _, _, _, _, _, _, _, _, _, _, _, _, _, _, _, _, _, .string ByteArray.empty, _, _, _, _, _, _, _, _, _, _, _, _, _, _, _, _, _, _, _, _, _, _, _, _, _, _, _, _, _, _, _, _, _, _, _, _, _, _, _, _, _, _, _, _], []⟩) rfl rfl rfl rfl ?_
      refine W.op (v := errV (mayC (B x).length l)) (fr1 := ⟨[_, _, _, _, _, _, _, _, _, _, _, _, _, _, _, _, _, _, _, _, _, _, _, _, _, _, _, errV (mayC (B x).length l), _, _, _, _, _, _, _, _, _, _, _, _, _, _, _, _, _, _, _, _, _, _, _, _, _, _, _, _, _, _, _, _, _, _, _, _, _, _, _, _, _, _, _], []⟩) rfl rfl rfl rfl ?_
      refine W.op (v := .string ByteArray.empty) (fr1 := ⟨[_, _, _, _, _, _, .string ByteArray.empty, _, _, _, _, _, _, _, _, _, _, _, _, _, _, _, _, _, _, _, _, _, _, _, _, _, _, _, _, _, _, _, _, _, _, _, _, _, _, _, _, _, _, _, _, _, _, _, _, _, _, _, _, _, _, _, _, _, _, _, _, _, _, _, _], []⟩) rfl rfl rfl rfl ?_
      refine W.op (v := errV (mayC (B x).length l)) (fr1 := ⟨[_, _, _, _, _, _, _, errV (mayC (B x).length l), _, _, _, _, _, _, _, _, _, _, _, _, _, _, _, _, _, _, _, _, _, _, _, _, _, _, _, _, _, _, _, _, _, _, _, _, _, _, _, _, _, _, _, _, _, _, _, _, _, _, _, _, _, _, _, _, _, _, _, _, _, _, _], []⟩) rfl rfl rfl rfl ?_
      refine EndsOps.nil ?_
      refine Ends.seq ?_
      refine Ends.region ?_
      refine W.op (v := .string x) (fr1 := ⟨[_, _, _, _, _, _, _, _, _, _, _, _, _, _, _, _, _, _, _, _, _, _, _, _, _, _, _, _, _, .string x, _, _, _, _, _, _, _, _, _, _, _, _, _, _, _, _, _, _, _, _, _, _, _, _, _, _, _, _, _, _, _, _, _, _, _, _, _, _, _, _, _], []⟩) rfl rfl rfl rfl ?_
      refine W.op (v := .slice al l.length cl) (fr1 := ⟨[_, _, _, _, _, _, _, _, _, _, _, _, _, _, _, _, _, _, _, _, _, _, _, _, _, _, _, _, _, _, .slice al l.length cl, _, _, _, _, _, _, _, _, _, _, _, _, _, _, _, _, _, _, _, _, _, _, _, _, _, _, _, _, _, _, _, _, _, _, _, _, _, _, _, _], []⟩) rfl rfl rfl rfl ?_
      refine W.call (ar := [.string x, .slice al l.length cl]) (X := .tuple ⟨[.string ByteArray.empty, .int .i64 (mayC (B x).length l)]⟩) (fr1 := ⟨[_, _, _, _, _, _, _, _, _, _, _, _, _, _, _, _, _, _, _, _, _, _, _, _, _, _, _, _, _, _, _, .tuple ⟨[.string ByteArray.empty, .int .i64 (mayC (B x).length l)]⟩, _, _, _, _, _, _, _, _, _, _, _, _, _, _, _, _, _, _, _, _, _, _, _, _, _, _, _, _, _, _, _, _, _, _, _, _, _, _, _], []⟩) hO137 rfl rfl rfl rfl (c30F x hx _ l _ _ _ _ _ _ h30 _ (Hl.own hO137)) rfl ?_
      intro s140 hO141 hS142
      have hE143 := hE139.trans hS142
      refine W.op (v := .tuple ⟨[.string ByteArray.empty, .int .i64 (mayC (B x).length l)]⟩) (fr1 := ⟨[_, _, _, _, _, _, _, _, _, _, _, _, _, _, _, _, _, _, _, _, _, _, _, _, _, _, _, _, .tuple ⟨[.string ByteArray.empty, .int .i64 (mayC (B x).length l)]⟩, _, _, _, _, _, _, _, _, _, _, _, _, _, _, _, _, _, _, _, _, _, _, _, _, _, _, _, _, _, _, _, _, _, _, _, _, _, _, _, _, _, _], []⟩) rfl rfl rfl rfl ?_
      refine W.op (v := .string ByteArray.empty) (fr1 := ⟨[_, _, _, _, _, _, _, _, _, _, _, _, _, _, _, _, _, _, _, _, _, _, _, _, _, _, _, _, _, _, _, _, .string ByteArray.empty, _, _, _, _, _, _, _, _, _, _, _, _, _, _, _, _, _, _, _, _, _, _, _, _, _, _, _, _, _, _, _, _, _, _, _, _, _, _], []⟩) rfl rfl rfl rfl ?_
      refine W.op (v := .int .i64 (mayC (B x).length l)) (fr1 := ⟨[_, _, _, _, _, _, _, _, _, _, _, _, _, _, _, _, _, _, _, _, _, _, _, _, _, _, _, _, _, _, _, _, _, .int .i64 (mayC (B x).length l), _, _, _, _, _, _, _, _, _, _, _, _, _, _, _, _, _, _, _, _, _, _, _, _, _, _, _, _, _, _, _, _, _, _, _, _, _], []⟩) rfl rfl rfl rfl ?_
      refine W.op (v := .string ByteArray.empty) (fr1 := ⟨[_, _, _, _, _, _, _, _, .string ByteArray.empty, _, _, _, _, _, _, _, _, _, _, _, _, _, _, _, _, _, _, _, _, _, _, _, _, _, _, _, _, _, _, _, _, _, _, _, _, _, _, _, _, _, _, _, _, _, _, _, _, _, _, _, _, _, _, _, _, _, _, _, _, _, _], []⟩) rfl rfl rfl rfl ?_
      refine W.op (v := .int .i64 (mayC (B x).length l)) (fr1 := ⟨[_, _, _, _, _, _, _, _, _, .int .i64 (mayC (B x).length l), _, _, _, _, _, _, _, _, _, _, _, _, _, _, _, _, _, _, _, _, _, _, _, _, _, _, _, _, _, _, _, _, _, _, _, _, _, _, _, _, _, _, _, _, _, _, _, _, _, _, _, _, _, _, _, _, _, _, _, _, _], []⟩) rfl rfl rfl rfl ?_
      refine EndsOps.nil ?_
      refine Ends.seq ?_
      refine Ends.region ?_
      refine W.op (v := .string x) (fr1 := ⟨[_, _, _, _, _, _, _, _, _, _, _, _, _, _, _, _, _, _, _, _, _, _, _, _, _, _, _, _, _, _, _, _, _, _, _, .string x, _, _, _, _, _, _, _, _, _, _, _, _, _, _, _, _, _, _, _, _, _, _, _, _, _, _, _, _, _, _, _, _, _, _, _], []⟩) rfl rfl rfl rfl ?_
      refine W.op (v := .slice a21 l.length cq22) (fr1 := ⟨[_, _, _, _, _, _, _, _, _, _, _, _, _, _, _, _, _, _, _, _, _, _, _, _, _, _, _, _, _, _, _, _, _, _, _, _, .slice a21 l.length cq22, _, _, _, _, _, _, _, _, _, _, _, _, _, _, _, _, _, _, _, _, _, _, _, _, _, _, _, _, _, _, _, _, _, _], []⟩) rfl rfl rfl rfl ?_
      refine W.call (ar := [.string x, .slice a21 l.length cq22]) (X := .tuple ⟨[.slice none 0 0, errV (mayC (B x).length l)]⟩) (fr1 := ⟨[_, _, _, _, _, _, _, _, _, _, _, _, _, _, _, _, _, _, _, _, _, _, _, _, _, _, _, _, _, _, _, _, _, _, _, _, _, .tuple ⟨[.slice none 0 0, errV (mayC (B x).length l)]⟩, _, _, _, _, _, _, _, _, _, _, _, _, _, _, _, _, _, _, _, _, _, _, _, _, _, _, _, _, _, _, _, _, _], []⟩) hO141 rfl rfl rfl rfl (c31F x hx _ l _ _ _ _ _ _ h30 _ (H27.own hE143)) rfl ?_
      intro s144 hO145 hS146
      have hE147 := hE143.trans hS146
      refine W.op (v := .tuple ⟨[.slice none 0 0, errV (mayC (B x).length l)]⟩) (fr1 := ⟨[_, _, _, _, _, _, _, _, _, _, _, _, _, _, _, _, _, _, _, _, _, _, _, _, _, _, _, _, _, _, _, _, _, _, .tuple ⟨[.slice none 0 0, errV (mayC (B x).length l)]⟩, _, _, _, _, _, _, _, _, _, _, _, _, _, _, _, _, _, _, _, _, _, _, _, _, _, _, _, _, _, _, _, _, _, _, _, _], []⟩) rfl rfl rfl rfl ?_
      refine W.op (v := .slice none 0 0) (fr1 := ⟨[_, _, _, _, _, _, _, _, _, _, _, _, _, _, _, _, _, _, _, _, _, _, _, _, _, _, _, _, _, _, _, _, _, _, _, _, _, _, .slice none 0 0, _, _, _, _, _, _, _, _, _, _, _, _, _, _, _, _, _, _, _, _, _, _, _, _, _, _, _, _, _, _, _, _], []⟩) rfl rfl rfl rfl ?_
      refine W.op (v := errV (mayC (B x).length l)) (fr1 := ⟨[_, _, _, _, _, _, _, _, _, _, _, _, _, _, _, _, _, _, _, _, _, _, _, _, _, _, _, _, _, _, _, _, _, _, _, _, _, _, _, errV (mayC (B x).length l), _, _, _, _, _, _, _, _, _, _, _, _, _, _, _, _, _, _, _, _, _, _, _, _, _, _, _, _, _, _, _], []⟩) rfl rfl rfl rfl ?_
      refine W.op (v := .slice none 0 0) (fr1 := ⟨[_, _, _, _, _, _, _, _, _, _, .slice none 0 0, _, _, _, _, _, _, _, _, _, _, _, _, _, _, _, _, _, _, _, _, _, _, _, _, _, _, _, _, _, _, _, _, _, _, _, _, _, _, _, _, _, _, _, _, _, _, _, _, _, _, _, _, _, _, _, _, _, _, _, _], []⟩) rfl rfl rfl rfl ?_
      refine W.op (v := errV (mayC (B x).length l)) (fr1 := ⟨[_, _, _, _, _, _, _, _, _, _, _, errV (mayC (B x).length l), _, _, _, _, _, _, _, _, _, _, _, _, _, _, _, _, _, _, _, _, _, _, _, _, _, _, _, _, _, _, _, _, _, _, _, _, _, _, _, _, _, _, _, _, _, _, _, _, _, _, _, _, _, _, _, _, _, _, _], []⟩) rfl rfl rfl rfl ?_
      refine EndsOps.nil ?_
      refine Ends.seq ?_
      refine Ends.region ?_
      refine W.op (v := .string x) (fr1 := ⟨[_, _, _, _, _, _, _, _, _, _, _, _, _, _, _, _, _, _, _, _, _, _, _, _, _, _, _, _, _, _, _, _, _, _, _, _, _, _, _, _, _, .string x, _, _, _, _, _, _, _, _, _, _, _, _, _, _, _, _, _, _, _, _, _, _, _, _, _, _, _, _, _], []⟩) rfl rfl rfl rfl ?_
      refine W.op (v := .slice al l.length cl) (fr1 := ⟨[_, _, _, _, _, _, _, _, _, _, _, _, _, _, _, _, _, _, _, _, _, _, _, _, _, _, _, _, _, _, _, _, _, _, _, _, _, _, _, _, _, _, .slice al l.length cl, _, _, _, _, _, _, _, _, _, _, _, _, _, _, _, _, _, _, _, _, _, _, _, _, _, _, _, _], []⟩) rfl rfl rfl rfl ?_
      refine W.call (ar := [.string x, .slice al l.length cl]) (X := .tuple ⟨[.slice none 0 0, .int .i64 (mayC (B x).length l)]⟩) (fr1 := ⟨[_, _, _, _, _, _, _, _, _, _, _, _, _, _, _, _, _, _, _, _, _, _, _, _, _, _, _, _, _, _, _, _, _, _, _, _, _, _, _, _, _, _, _, .tuple ⟨[.slice none 0 0, .int .i64 (mayC (B x).length l)]⟩, _, _, _, _, _, _, _, _, _, _, _, _, _, _, _, _, _, _, _, _, _, _, _, _, _, _, _], []⟩) hO145 rfl rfl rfl rfl (c32F x hx _ l _ _ _ _ _ _ h30 _ (Hl.own hO145)) rfl ?_
      intro s148 hO149 hS150
      have hE151 := hE147.trans hS150
      refine W.op (v := .tuple ⟨[.slice none 0 0, .int .i64 (mayC (B x).length l)]⟩) (fr1 := ⟨[_, _, _, _, _, _, _, _, _, _, _, _, _, _, _, _, _, _, _, _, _, _, _, _, _, _, _, _, _, _, _, _, _, _, _, _, _, _, _, _, .tuple ⟨[.slice none 0 0, .int .i64 (mayC (B x).length l)]⟩, _, _, _, _, _, _, _, _, _, _, _, _, _, _, _, _, _, _, _, _, _, _, _, _, _, _, _, _, _, _], []⟩) rfl rfl rfl rfl ?_
      refine W.op (v := .slice none 0 0) (fr1 := ⟨[_, _, _, _, _, _, _, _, _, _, _, _, _, _, _, _, _, _, _, _, _, _, _, _, _, _, _, _, _, _, _, _, _, _, _, _, _, _, _, _, _, _, _, _, .slice none 0 0, _, _, _, _, _, _, _, _, _, _, _, _, _, _, _, _, _, _, _, _, _, _, _, _, _, _], []⟩) rfl rfl rfl rfl ?_
      refine W.op (v := .int .i64 (mayC (B x).length l)) (fr1 := ⟨[_, _, _, _, _, _, _, _, _, _, _, _, _, _, _, _, _, _, _, _, _, _, _, _, _, _, _, _, _, _, _, _, _, _, _, _, _, _, _, _, _, _, _, _, _, .int .i64 (mayC (B x).length l), _, _, _, _, _, _, _, _, _, _, _, _, _, _, _, _, _, _, _, _, _, _, _, _, _], []⟩) rfl rfl rfl rfl ?_
      refine W.op (v := .slice none 0 0) (fr1 := ⟨[_, _, _, _, _, _, _, _, _, _, _, _, .slice none 0 0, _, _, _, _, _, _, _, _, _, _, _, _, _, _, _, _, _, _, _, _, _, _, _, _, _, _, _, _, _, _, _, _, _, _, _, _, _, _, _, _, _, _, _, _, _, _, _, _, _, _, _, _, _, _, _, _, _, _], []⟩) rfl rfl rfl rfl ?_
      refine W.op (v := .int .i64 (mayC (B x).length l)) (fr1 := ⟨[_, _, _, _, _, _, _, _, _, _, _, _, _, .int .i64 (mayC (B x).length l), _, _, _, _, _, _, _, _, _, _, _, _, _, _, _, _, _, _, _, _, _, _, _, _, _, _, _, _, _, _, _, _, _, _, _, _, _, _, _, _, _, _, _, _, _, _, _, _, _, _, _, _, _, _, _, _, _], []⟩) rfl rfl rfl rfl ?_
      refine EndsOps.nil ?_
      refine Ends.seq ?_
      refine Ends.region ?_
      refine W.op (v := .string ByteArray.empty) (fr1 := ⟨[_, _, _, _, _, _, _, _, _, _, _, _, _, _, _, _, _, _, _, _, _, _, _, _, _, _, _, _, _, _, _, _, _, _, _, _, _, _, _, _, _, _, _, _, _, _, .string ByteArray.empty, _, _, _, _, _, _, _, _, _, _, _, _, _, _, _, _, _, _, _, _, _, _, _, _], []⟩) rfl rfl rfl rfl ?_
      refine W.op (v := .string ByteArray.empty) (fr1 := ⟨[_, _, _, _, _, _, _, _, _, _, _, _, _, _, _, _, _, _, _, _, _, _, _, _, _, _, _, _, _, _, _, _, _, _, _, _, _, _, _, _, _, _, _, _, _, _, _, .string ByteArray.empty, _, _, _, _, _, _, _, _, _, _, _, _, _, _, _, _, _, _, _, _, _, _, _], []⟩) rfl rfl rfl rfl ?_
      refine W.op (v := .bool true) (fr1 := ⟨[_, _, _, _, _, _, _, _, _, _, _, _, _, _, _, _, _, _, _, _, _, _, _, _, _, _, _, _, _, _, _, _, _, _, _, _, _, _, _, _, _, _, _, _, _, _, _, _, .bool true, _, _, _, _, _, _, _, _, _, _, _, _, _, _, _, _, _, _, _, _, _, _], []⟩) rfl (p_bin (seqT rfl)) rfl rfl ?_
      refine W.op (v := .bool true) (fr1 := ⟨[_, _, _, _, _, _, _, _, _, _, _, _, _, _, _, _, _, _, _, _, _, _, _, _, _, _, _, _, _, _, _, _, _, _, _, _, _, _, _, _, _, _, _, _, _, _, _, _, _, .bool true, _, _, _, _, _, _, _, _, _, _, _, _, _, _, _, _, _, _, _, _, _], []⟩) rfl rfl rfl rfl ?_
      refine W.op (v := errV (mayC (B x).length l)) (fr1 := ⟨[_, _, _, _, _, _, _, _, _, _, _, _, _, _, _, _, _, _, _, _, _, _, _, _, _, _, _, _, _, _, _, _, _, _, _, _, _, _, _, _, _, _, _, _, _, _, _, _, _, _, errV (mayC (B x).length l), _, _, _, _, _, _, _, _, _, _, _, _, _, _, _, _, _, _, _, _], []⟩) rfl rfl rfl rfl ?_
      refine W.call (ar := [errV (mayC (B x).length l)]) (X := .int .i64 (mayC (B x).length l)) (fr1 := ⟨[_, _, _, _, _, _, _, _, _, _, _, _, _, _, _, _, _, _, _, _, _, _, _, _, _, _, _, _, _, _, _, _, _, _, _, _, _, _, _, _, _, _, _, _, _, _, _, _, _, _, _, .int .i64 (mayC (B x).length l), _, _, _, _, _, _, _, _, _, _, _, _, _, _, _, _, _, _, _], []⟩) hO149 rfl rfl rfl rfl (c22e (mayC (B x).length l) _) rfl ?_
      intro s152 hO153 hS154
      have hE155 := hE151.trans hS154
      refine W.op (v := .int .i64 (mayC (B x).length l)) (fr1 := ⟨[_, _, _, _, _, _, _, _, _, _, _, _, _, _, _, _, _, _, _, _, _, _, _, _, _, _, _, _, _, _, _, _, _, _, _, _, _, _, _, _, _, _, _, _, _, _, _, _, _, _, _, _, .int .i64 (mayC (B x).length l), _, _, _, _, _, _, _, _, _, _, _, _, _, _, _, _, _, _], []⟩) rfl rfl rfl rfl ?_
      refine W.op (v := .bool true) (fr1 := ⟨[_, _, _, _, _, _, _, _, _, _, _, _, _, _, _, _, _, _, _, _, _, _, _, _, _, _, _, _, _, _, _, _, _, _, _, _, _, _, _, _, _, _, _, _, _, _, _, _, _, _, _, _, _, .bool true, _, _, _, _, _, _, _, _, _, _, _, _, _, _, _, _, _], []⟩) rfl (p_bin (eqT rfl)) rfl rfl ?_
      refine W.op (v := .bool true) (fr1 := ⟨[_, _, _, _, _, _, _, _, _, _, _, _, _, _, _, _, _, _, _, _, _, _, _, _, _, _, _, _, _, _, _, _, _, _, _, _, _, _, _, _, _, _, _, _, _, _, _, _, _, _, _, _, _, _, .bool true, _, _, _, _, _, _, _, _, _, _, _, _, _, _, _, _], []⟩) rfl rfl rfl rfl ?_
      refine W.op (v := .bool true) (fr1 := ⟨[_, _, _, _, _, _, _, _, _, _, _, _, _, _, _, _, _, _, _, _, _, _, _, _, _, _, _, _, _, _, _, _, _, _, _, _, _, _, _, _, _, _, _, _, _, _, _, _, _, _, _, _, _, _, _, .bool true, _, _, _, _, _, _, _, _, _, _, _, _, _, _, _], []⟩) rfl rfl rfl rfl ?_
      refine W.op (v := errV (mayC (B x).length l)) (fr1 := ⟨[_, _, _, _, _, _, _, _, _, _, _, _, _, _, _, _, _, _, _, _, _, _, _, _, _, _, _, _, _, _, _, _, _, _, _, _, _, _, _, _, _, _, _, _, _, _, _, _, _, _, _, _, _, _, _, _, errV (mayC (B x).length l), _, _, _, _, _, _, _, _, _, _, _, _, _, _], []⟩) rfl rfl rfl rfl ?_
      refine W.call (ar := [errV (mayC (B x).length l)]) (X := .int .i64 (mayC (B x).length l)) (fr1 := ⟨[_, _, _, _, _, _, _, _, _, _, _, _, _, _, _, _, _, _, _, _, _, _, _, _, _, _, _, _, _, _, _, _, _, _, _, _, _, _, _, _, _, _, _, _, _, _, _, _, _, _, _, _, _, _, _, _, _, .int .i64 (mayC (B x).length l), _, _, _, _, _, _, _, _, _, _, _, _, _], []⟩) hO153 rfl rfl rfl rfl (c22e (mayC (B x).length l) _) rfl ?_
      intro s156 hO157 hS158
      have hE159 := hE155.trans hS158
      refine W.op (v := .int .i64 (mayC (B x).length l)) (fr1 := ⟨[_, _, _, _, _, _, _, _, _, _, _, _, _, _, _, _, _, _, _, _, _, _, _, _, _, _, _, _, _, _, _, _, _, _, _, _, _, _, _, _, _, _, _, _, _, _, _, _, _, _, _, _, _, _, _, _, _, _, .int .i64 (mayC (B x).length l), _, _, _, _, _, _, _, _, _, _, _, _], []⟩) rfl rfl rfl rfl ?_
      refine W.op (v := .bool true) (fr1 := ⟨[_, _, _, _, _, _, _, _, _, _, _, _, _, _, _, _, _, _, _, _, _, _, _, _, _, _, _, _, _, _, _, _, _, _, _, _, _, _, _, _, _, _, _, _, _, _, _, _, _, _, _, _, _, _, _, _, _, _, _, .bool true, _, _, _, _, _, _, _, _, _, _, _], []⟩) rfl (p_bin (eqT rfl)) rfl rfl ?_
      refine W.op (v := .bool true) (fr1 := ⟨[_, _, _, _, _, _, _, _, _, _, _, _, _, _, _, _, _, _, _, _, _, _, _, _, _, _, _, _, _, _, _, _, _, _, _, _, _, _, _, _, _, _, _, _, _, _, _, _, _, _, _, _, _, _, _, _, _, _, _, _, .bool true, _, _, _, _, _, _, _, _, _, _], []⟩) rfl rfl rfl rfl ?_
      refine W.op (v := .bool true) (fr1 := ⟨[_, _, _, _, _, _, _, _, _, _, _, _, _, _, _, _, _, _, _, _, _, _, _, _, _, _, _, _, _, _, _, _, _, _, _, _, _, _, _, _, _, _, _, _, _, _, _, _, _, _, _, _, _, _, _, _, _, _, _, _, _, .bool true, _, _, _, _, _, _, _, _, _], []⟩) rfl rfl rfl rfl ?_
      refine W.op (v := .slice none 0 0) (fr1 := ⟨[_, _, _, _, _, _, _, _, _, _, _, _, _, _, _, _, _, _, _, _, _, _, _, _, _, _, _, _, _, _, _, _, _, _, _, _, _, _, _, _, _, _, _, _, _, _, _, _, _, _, _, _, _, _, _, _, _, _, _, _, _, _, .slice none 0 0, _, _, _, _, _, _, _, _], []⟩) rfl rfl rfl rfl ?_
      refine W.op (v := .slice none 0 0) (fr1 := ⟨[_, _, _, _, _, _, _, _, _, _, _, _, _, _, _, _, _, _, _, _, _, _, _, _, _, _, _, _, _, _, _, _, _, _, _, _, _, _, _, _, _, _, _, _, _, _, _, _, _, _, _, _, _, _, _, _, _, _, _, _, _, _, _, .slice none 0 0, _, _, _, _, _, _, _], []⟩) rfl rfl rfl rfl ?_
      refine W.call (ar := [.slice none 0 0, .slice none 0 0]) (X := .bool true) (fr1 := ⟨[_, _, _, _, _, _, _, _, _, _, _, _, _, _, _, _, _, _, _, _, _, _, _, _, _, _, _, _, _, _, _, _, _, _, _, _, _, _, _, _, _, _, _, _, _, _, _, _, _, _, _, _, _, _, _, _, _, _, _, _, _, _, _, _, .bool true, _, _, _, _, _, _], []⟩) hO157 rfl rfl rfl rfl ((c33 _ _ _ _ _ _ _ _ _ _ _ _ _ _ _ _ _ (Sl.nil _ _) (Sl.nil _ _)).mono fun v _ _ g => g.trans (congrArg Value.bool (decide_eq_true rfl))) rfl ?_
      intro s160 hO161 hS162
      have hE163 := hE159.trans hS162
      refine W.op (v := .bool true) (fr1 := ⟨[_, _, _, _, _, _, _, _, _, _, _, _, _, _, _, _, _, _, _, _, _, _, _, _, _, _, _, _, _, _, _, _, _, _, _, _, _, _, _, _, _, _, _, _, _, _, _, _, _, _, _, _, _, _, _, _, _, _, _, _, _, _, _, _, _, .bool true, _, _, _, _, _], []⟩) rfl rfl rfl rfl ?_
      refine W.op (v := .bool true) (fr1 := ⟨[_, _, _, _, _, _, _, _, _, _, _, _, _, _, _, _, _, _, _, _, _, _, _, _, _, _, _, _, _, _, _, _, _, _, _, _, _, _, _, _, _, _, _, _, _, _, _, _, _, _, _, _, _, _, _, _, _, _, _, _, _, _, _, _, _, _, .bool true, _, _, _, _], []⟩) rfl rfl rfl rfl ?_
      refine W.op (v := .slice a21 l.length cq22) (fr1 := ⟨[_, _, _, _, _, _, _, _, _, _, _, _, _, _, _, _, _, _, _, _, _, _, _, _, _, _, _, _, _, _, _, _, _, _, _, _, _, _, _, _, _, _, _, _, _, _, _, _, _, _, _, _, _, _, _, _, _, _, _, _, _, _, _, _, _, _, _, .slice a21 l.length cq22, _, _, _], []⟩) rfl rfl rfl rfl ?_
      refine W.op (v := .slice al l.length cl) (fr1 := ⟨[_, _, _, _, _, _, _, _, _, _, _, _, _, _, _, _, _, _, _, _, _, _, _, _, _, _, _, _, _, _, _, _, _, _, _, _, _, _, _, _, _, _, _, _, _, _, _, _, _, _, _, _, _, _, _, _, _, _, _, _, _, _, _, _, _, _, _, _, .slice al l.length cl, _, _], []⟩) rfl rfl rfl rfl ?_
      refine W.call (ar := [.slice a21 l.length cq22, .slice al l.length cl]) (X := .bool true) (fr1 := ⟨[_, _, _, _, _, _, _, _, _, _, _, _, _, _, _, _, _, _, _, _, _, _, _, _, _, _, _, _, _, _, _, _, _, _, _, _, _, _, _, _, _, _, _, _, _, _, _, _, _, _, _, _, _, _, _, _, _, _, _, _, _, _, _, _, _, _, _, _, _, .bool true, _], []⟩) hO161 rfl rfl rfl rfl ((c33 _ _ _ _ _ _ _ _ _ _ _ _ _ _ _ _ _ (H27.own hE163) (Hl.own hO161)).mono fun v _ _ g => g.trans (congrArg Value.bool (decide_eq_true rfl))) rfl ?_
      intro s164 hO165 hS166
      have hE167 := hE163.trans hS166
      refine W.op (v := .bool true) (fr1 := ⟨[_, _, _, _, _, _, _, _, _, _, _, _, _, _, _, _, _, _, _, _, _, _, _, _, _, _, _, _, _, _, _, _, _, _, _, _, _, _, _, _, _, _, _, _, _, _, _, _, _, _, _, _, _, _, _, _, _, _, _, _, _, _, _, _, _, _, _, _, _, _, .bool true], []⟩) rfl rfl rfl rfl ?_
      refine W.op (v := .bool true) (fr1 := ⟨[_, _, _, _, .bool true, _, _, _, _, _, _, _, _, _, _, _, _, _, _, _, _, _, _, _, _, _, _, _, _, _, _, _, _, _, _, _, _, _, _, _, _, _, _, _, _, _, _, _, _, _, _, _, _, _, _, _, _, _, _, _, _, _, _, _, _, _, _, _, _, _, _], []⟩) rfl rfl rfl rfl ?_
      refine EndsOps.nil ?_
      refine Ends.ret ?_
      exact ⟨rfl, rfl, hO165, by
        show Value.bool true = Value.bool true
        rfl⟩
end Go.Ev.R1
