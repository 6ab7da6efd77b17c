/-
  EV: contracts of the first seat's functions.
-/
import Derived.Test.YtelpkdjibjddlaaEvFiA2
namespace Go.Ev.R1
open Go Go.Ev Go.Proofs
set_option maxRecDepth 10000

theorem c8 (al : Option Addr) (l : List Fl) (cl Nl ol : Nat) (vl : List Value) (yl zl : Nat) (x : ByteArray) (C : Cp 2 al l.length cl) (K : ∀ f ∈ l, f.Ok) (s : St) (Hl : Sl Fl.cells 2 s.t s.next al l Nl ol vl yl zl) (A : EndsPure R1.T 39 [] s fun v _ _ => v = .bool true) : EndsPure R1.T 8 [.slice al l.length cl, .string x] s (fun v _ _ => v = .bool true) := by
  refine EndsPure.of (rs := [4]) (fr0 := ⟨[.slice al l.length cl, .string x, undef, undef, undef, undef, undef, undef, undef, undef, undef, undef, undef, undef, undef, undef, undef, undef, undef, undef, undef, undef, undef, undef, undef, undef, undef, undef, undef, undef, undef, undef, undef, undef, undef, undef, undef, undef, undef, undef, undef, undef, undef, undef, undef, undef, undef, undef, undef, undef, undef, undef, undef, undef, undef, undef, undef, undef, undef, undef, undef, undef, undef, undef, undef, undef, undef, undef, undef, undef, undef, undef, undef, undef, undef, undef, undef, undef, undef, undef, undef, undef, undef, undef, undef], []⟩) (by kernel_rfl : R1.T.fn 8 = some ⟨85, (Try.f8.body).getD .skip, [.tmp 4]⟩) rfl ?_
  have hO0 := Own.refl s
  have Ml := Hl.small
  simp only [Try.f8, Option.getD]
  refine Ends.seq ?_
  refine Ends.region ?_
  refine W.op (v := .bool false) (fr1 := ⟨[_, _, _, _, .bool false, _, _, _, _, _, _, _, _, _, _, _, _, _, _, _, _, _, _, _, _, _, _, _, _, _, _, _, _, _, _, _, _, _, _, _, _, _, _, _, _, _, _, _, _, _, _, _, _, _, _, _, _, _, _, _, _, _, _, _, _, _, _, _, _, _, _, _, _, _, _, _, _, _, _, _, _, _, _, _, _], []⟩) rfl rfl rfl rfl ?_
  refine EndsOps.nil ?_
  refine Ends.seq ?_
  refine Ends.seq ?_
  refine Ends.region ?_
  refine W.call (ar := []) (X := .bool true) (fr1 := ⟨[_, _, _, _, _, _, _, _, _, _, _, _, .bool true, _, _, _, _, _, _, _, _, _, _, _, _, _, _, _, _, _, _, _, _, _, _, _, _, _, _, _, _, _, _, _, _, _, _, _, _, _, _, _, _, _, _, _, _, _, _, _, _, _, _, _, _, _, _, _, _, _, _, _, _, _, _, _, _, _, _, _, _, _, _, _, _], []⟩) hO0 rfl rfl rfl rfl A rfl ?_
  intro s1 hO2 hS3
  refine W.op (v := .bool false) (fr1 := ⟨[_, _, _, _, _, _, _, _, _, _, _, _, _, .bool false, _, _, _, _, _, _, _, _, _, _, _, _, _, _, _, _, _, _, _, _, _, _, _, _, _, _, _, _, _, _, _, _, _, _, _, _, _, _, _, _, _, _, _, _, _, _, _, _, _, _, _, _, _, _, _, _, _, _, _, _, _, _, _, _, _, _, _, _, _, _, _], []⟩) rfl rfl rfl rfl ?_
  refine EndsOps.nil ?_
  refine Ends.condF rfl ?_
  refine Ends.skip ?_
  refine Ends.seq ?_
  refine Ends.seq ?_
  refine Ends.region ?_
  refine W.op (v := .slice al l.length cl) (fr1 := ⟨[_, _, _, _, _, _, _, _, _, _, _, _, _, _, .slice al l.length cl, _, _, _, _, _, _, _, _, _, _, _, _, _, _, _, _, _, _, _, _, _, _, _, _, _, _, _, _, _, _, _, _, _, _, _, _, _, _, _, _, _, _, _, _, _, _, _, _, _, _, _, _, _, _, _, _, _, _, _, _, _, _, _, _, _, _, _, _, _, _], []⟩) rfl rfl rfl rfl ?_
  by_cases h4 : LargeF l
  · skip
    refine W.call (ar := [.slice al l.length cl]) (X := .bool true) (fr1 := ⟨[_, _, _, _, _, _, _, _, _, _, _, _, _, _, _, .bool true, _, _, _, _, _, _, _, _, _, _, _, _, _, _, _, _, _, _, _, _, _, _, _, _, _, _, _, _, _, _, _, _, _, _, _, _, _, _, _, _, _, _, _, _, _, _, _, _, _, _, _, _, _, _, _, _, _, _, _, _, _, _, _, _, _, _, _, _, _], []⟩) hO2 rfl rfl rfl rfl ((c40 _ _ _ _ _ _ _ _ K _ (Hl.own hO2)).mono fun v _ _ g => g.trans (congrArg Value.bool (decide_eq_true h4))) rfl ?_
    intro s5 hO6 hS7
    refine W.op (v := .bool true) (fr1 := ⟨[_, _, _, _, _, _, _, _, _, _, _, _, _, _, _, _, .bool true, _, _, _, _, _, _, _, _, _, _, _, _, _, _, _, _, _, _, _, _, _, _, _, _, _, _, _, _, _, _, _, _, _, _, _, _, _, _, _, _, _, _, _, _, _, _, _, _, _, _, _, _, _, _, _, _, _, _, _, _, _, _, _, _, _, _, _, _], []⟩) rfl rfl rfl rfl ?_
    refine W.skip (fr1 := ⟨[_, _, _, _, _, _, _, _, _, _, _, _, _, _, _, _, _, undef, _, _, _, _, _, _, _, _, _, _, _, _, _, _, _, _, _, _, _, _, _, _, _, _, _, _, _, _, _, _, _, _, _, _, _, _, _, _, _, _, _, _, _, _, _, _, _, _, _, _, _, _, _, _, _, _, _, _, _, _, _, _, _, _, _, _, _], []⟩) rfl rfl ?_
    refine W.skip (fr1 := ⟨[_, _, _, _, _, _, _, _, _, _, _, _, _, _, _, _, _, _, undef, _, _, _, _, _, _, _, _, _, _, _, _, _, _, _, _, _, _, _, _, _, _, _, _, _, _, _, _, _, _, _, _, _, _, _, _, _, _, _, _, _, _, _, _, _, _, _, _, _, _, _, _, _, _, _, _, _, _, _, _, _, _, _, _, _, _], []⟩) rfl rfl ?_
    refine W.skip (fr1 := ⟨[_, _, _, _, _, _, _, _, _, _, _, _, _, _, _, _, _, _, _, undef, _, _, _, _, _, _, _, _, _, _, _, _, _, _, _, _, _, _, _, _, _, _, _, _, _, _, _, _, _, _, _, _, _, _, _, _, _, _, _, _, _, _, _, _, _, _, _, _, _, _, _, _, _, _, _, _, _, _, _, _, _, _, _, _, _], []⟩) rfl rfl ?_
    refine W.op (v := .bool true) (fr1 := ⟨[_, _, _, _, _, _, _, _, _, _, _, _, _, _, _, _, _, _, _, _, .bool true, _, _, _, _, _, _, _, _, _, _, _, _, _, _, _, _, _, _, _, _, _, _, _, _, _, _, _, _, _, _, _, _, _, _, _, _, _, _, _, _, _, _, _, _, _, _, _, _, _, _, _, _, _, _, _, _, _, _, _, _, _, _, _, _], []⟩) rfl rfl rfl rfl ?_
    refine EndsOps.nil ?_
    refine Ends.condT rfl ?_
    refine Ends.seq ?_
    refine Ends.region ?_
    refine W.op (v := .bool true) (fr1 := ⟨[_, _, _, _, .bool true, _, _, _, _, _, _, _, _, _, _, _, _, _, _, _, _, _, _, _, _, _, _, _, _, _, _, _, _, _, _, _, _, _, _, _, _, _, _, _, _, _, _, _, _, _, _, _, _, _, _, _, _, _, _, _, _, _, _, _, _, _, _, _, _, _, _, _, _, _, _, _, _, _, _, _, _, _, _, _, _], []⟩) rfl rfl rfl rfl ?_
    refine EndsOps.nil ?_
    refine Ends.ret ?_
    exact ⟨rfl, rfl, hO6, by
      show Value.bool true = Value.bool true
      rfl⟩
  · skip
    have hB : l.length ≤ 1000000 := by simp only [LargeF] at h4; omega
    refine W.call (ar := [.slice al l.length cl]) (X := .bool false) (fr1 := ⟨[_, _, _, _, _, _, _, _, _, _, _, _, _, _, _, .bool false, _, _, _, _, _, _, _, _, _, _, _, _, _, _, _, _, _, _, _, _, _, _, _, _, _, _, _, _, _, _, _, _, _, _, _, _, _, _, _, _, _, _, _, _, _, _, _, _, _, _, _, _, _, _, _, _, _, _, _, _, _, _, _, _, _, _, _, _, _], []⟩) hO2 rfl rfl rfl rfl ((c40 _ _ _ _ _ _ _ _ K _ (Hl.own hO2)).mono fun v _ _ g => g.trans (congrArg Value.bool (decide_eq_false h4))) rfl ?_
    intro s8 hO9 hS10
    refine W.op (v := .bool false) (fr1 := ⟨[_, _, _, _, _, _, _, _, _, _, _, _, _, _, _, _, .bool false, _, _, _, _, _, _, _, _, _, _, _, _, _, _, _, _, _, _, _, _, _, _, _, _, _, _, _, _, _, _, _, _, _, _, _, _, _, _, _, _, _, _, _, _, _, _, _, _, _, _, _, _, _, _, _, _, _, _, _, _, _, _, _, _, _, _, _, _], []⟩) rfl rfl rfl rfl ?_
    refine W.op (v := .string x) (fr1 := ⟨[_, _, _, _, _, _, _, _, _, _, _, _, _, _, _, _, _, .string x, _, _, _, _, _, _, _, _, _, _, _, _, _, _, _, _, _, _, _, _, _, _, _, _, _, _, _, _, _, _, _, _, _, _, _, _, _, _, _, _, _, _, _, _, _, _, _, _, _, _, _, _, _, _, _, _, _, _, _, _, _, _, _, _, _, _, _], []⟩) rfl rfl rfl rfl ?_
    refine W.op (v := .int .i64 (((B x).length : Nat) : Int)) (fr1 := ⟨[_, _, _, _, _, _, _, _, _, _, _, _, _, _, _, _, _, _, .int .i64 (((B x).length : Nat) : Int), _, _, _, _, _, _, _, _, _, _, _, _, _, _, _, _, _, _, _, _, _, _, _, _, _, _, _, _, _, _, _, _, _, _, _, _, _, _, _, _, _, _, _, _, _, _, _, _, _, _, _, _, _, _, _, _, _, _, _, _, _, _, _, _, _, _], []⟩) rfl rfl rfl rfl ?_
    by_cases h11 : (500 : Int) < (((B x).length : Nat) : Int)
    · skip
      refine W.op (v := .bool true) (fr1 := ⟨[_, _, _, _, _, _, _, _, _, _, _, _, _, _, _, _, _, _, _, .bool true, _, _, _, _, _, _, _, _, _, _, _, _, _, _, _, _, _, _, _, _, _, _, _, _, _, _, _, _, _, _, _, _, _, _, _, _, _, _, _, _, _, _, _, _, _, _, _, _, _, _, _, _, _, _, _, _, _, _, _, _, _, _, _, _, _], []⟩) rfl (p_bin (gtT h11)) rfl rfl ?_
      refine W.op (v := .bool true) (fr1 := ⟨[_, _, _, _, _, _, _, _, _, _, _, _, _, _, _, _, _, _, _, _, .bool true, _, _, _, _, _, _, _, _, _, _, _, _, _, _, _, _, _, _, _, _, _, _, _, _, _, _, _, _, _, _, _, _, _, _, _, _, _, _, _, _, _, _, _, _, _, _, _, _, _, _, _, _, _, _, _, _, _, _, _, _, _, _, _, _], []⟩) rfl rfl rfl rfl ?_
      refine EndsOps.nil ?_
      refine Ends.condT rfl ?_
      refine Ends.seq ?_
      refine Ends.region ?_
      refine W.op (v := .bool true) (fr1 := ⟨[_, _, _, _, .bool true, _, _, _, _, _, _, _, _, _, _, _, _, _, _, _, _, _, _, _, _, _, _, _, _, _, _, _, _, _, _, _, _, _, _, _, _, _, _, _, _, _, _, _, _, _, _, _, _, _, _, _, _, _, _, _, _, _, _, _, _, _, _, _, _, _, _, _, _, _, _, _, _, _, _, _, _, _, _, _, _], []⟩) rfl rfl rfl rfl ?_
      refine EndsOps.nil ?_
      refine Ends.ret ?_
      exact ⟨rfl, rfl, hO9, by
        show Value.bool true = Value.bool true
        rfl⟩
    · skip
      refine W.op (v := .bool false) (fr1 := ⟨[_, _, _, _, _, _, _, _, _, _, _, _, _, _, _, _, _, _, _, .bool false, _, _, _, _, _, _, _, _, _, _, _, _, _, _, _, _, _, _, _, _, _, _, _, _, _, _, _, _, _, _, _, _, _, _, _, _, _, _, _, _, _, _, _, _, _, _, _, _, _, _, _, _, _, _, _, _, _, _, _, _, _, _, _, _, _], []⟩) rfl (p_bin (gtF h11)) rfl rfl ?_
      refine W.op (v := .bool false) (fr1 := ⟨[_, _, _, _, _, _, _, _, _, _, _, _, _, _, _, _, _, _, _, _, .bool false, _, _, _, _, _, _, _, _, _, _, _, _, _, _, _, _, _, _, _, _, _, _, _, _, _, _, _, _, _, _, _, _, _, _, _, _, _, _, _, _, _, _, _, _, _, _, _, _, _, _, _, _, _, _, _, _, _, _, _, _, _, _, _, _], []⟩) rfl rfl rfl rfl ?_
      refine EndsOps.nil ?_
      refine Ends.condF rfl ?_
      refine Ends.skip ?_
      refine Ends.seq ?_
      refine Ends.region ?_
      refine W.op (v := .slice al l.length cl) (fr1 := ⟨[_, _, _, _, _, _, _, _, _, _, _, _, _, _, _, _, _, _, _, _, _, _, .slice al l.length cl, _, _, _, _, _, _, _, _, _, _, _, _, _, _, _, _, _, _, _, _, _, _, _, _, _, _, _, _, _, _, _, _, _, _, _, _, _, _, _, _, _, _, _, _, _, _, _, _, _, _, _, _, _, _, _, _, _, _, _, _, _, _], []⟩) rfl rfl rfl rfl ?_
      refine W.op (v := .string x) (fr1 := ⟨[_, _, _, _, _, _, _, _, _, _, _, _, _, _, _, _, _, _, _, _, _, _, _, .string x, _, _, _, _, _, _, _, _, _, _, _, _, _, _, _, _, _, _, _, _, _, _, _, _, _, _, _, _, _, _, _, _, _, _, _, _, _, _, _, _, _, _, _, _, _, _, _, _, _, _, _, _, _, _, _, _, _, _, _, _, _], []⟩) rfl rfl rfl rfl ?_
      by_cases h12 : FR l
      · skip
        by_cases h13 : placeS l x < 0
        · skip
          refine W.call (ar := [.slice al l.length cl, .string x]) (X := .tuple ⟨[.int .i64 0, .iface 37 (.int .i64 5)]⟩) (fr1 := ⟨[_, _, _, _, _, _, _, _, _, _, _, _, _, _, _, _, _, _, _, _, _, _, _, _, .tuple ⟨[.int .i64 0, .iface 37 (.int .i64 5)]⟩, _, _, _, _, _, _, _, _, _, _, _, _, _, _, _, _, _, _, _, _, _, _, _, _, _, _, _, _, _, _, _, _, _, _, _, _, _, _, _, _, _, _, _, _, _, _, _, _, _, _, _, _, _, _, _, _, _, _, _, _], []⟩) hO9 rfl rfl rfl rfl ((c44T _ _ _ _ _ _ _ _ x h12 _ (Hl.own hO9)).mono fun v _ _ h => h.trans (if_pos h13)) rfl ?_
          intro s14 hO15 hS16
          refine W.op (v := .tuple ⟨[.int .i64 0, .iface 37 (.int .i64 5)]⟩) (fr1 := ⟨[_, _, _, _, _, _, _, _, _, _, _, _, _, _, _, _, _, _, _, _, _, .tuple ⟨[.int .i64 0, .iface 37 (.int .i64 5)]⟩, _, _, _, _, _, _, _, _, _, _, _, _, _, _, _, _, _, _, _, _, _, _, _, _, _, _, _, _, _, _, _, _, _, _, _, _, _, _, _, _, _, _, _, _, _, _, _, _, _, _, _, _, _, _, _, _, _, _, _, _, _, _, _], []⟩) rfl rfl rfl rfl ?_
          refine W.op (v := .int .i64 0) (fr1 := ⟨[_, _, _, _, _, _, _, _, _, _, _, _, _, _, _, _, _, _, _, _, _, _, _, _, _, .int .i64 0, _, _, _, _, _, _, _, _, _, _, _, _, _, _, _, _, _, _, _, _, _, _, _, _, _, _, _, _, _, _, _, _, _, _, _, _, _, _, _, _, _, _, _, _, _, _, _, _, _, _, _, _, _, _, _, _, _, _, _], []⟩) rfl rfl rfl rfl ?_
          refine W.op (v := .iface 37 (.int .i64 5)) (fr1 := ⟨[_, _, _, _, _, _, _, _, _, _, _, _, _, _, _, _, _, _, _, _, _, _, _, _, _, _, .iface 37 (.int .i64 5), _, _, _, _, _, _, _, _, _, _, _, _, _, _, _, _, _, _, _, _, _, _, _, _, _, _, _, _, _, _, _, _, _, _, _, _, _, _, _, _, _, _, _, _, _, _, _, _, _, _, _, _, _, _, _, _, _, _], []⟩) rfl rfl rfl rfl ?_
          refine W.op (v := .int .i64 0) (fr1 := ⟨[_, _, _, _, _, .int .i64 0, _, _, _, _, _, _, _, _, _, _, _, _, _, _, _, _, _, _, _, _, _, _, _, _, _, _, _, _, _, _, _, _, _, _, _, _, _, _, _, _, _, _, _, _, _, _, _, _, _, _, _, _, _, _, _, _, _, _, _, _, _, _, _, _, _, _, _, _, _, _, _, _, _, _, _, _, _, _, _], []⟩) rfl rfl rfl rfl ?_
          refine W.op (v := .iface 37 (.int .i64 5)) (fr1 := ⟨[_, _, _, _, _, _, .iface 37 (.int .i64 5), _, _, _, _, _, _, _, _, _, _, _, _, _, _, _, _, _, _, _, _, _, _, _, _, _, _, _, _, _, _, _, _, _, _, _, _, _, _, _, _, _, _, _, _, _, _, _, _, _, _, _, _, _, _, _, _, _, _, _, _, _, _, _, _, _, _, _, _, _, _, _, _, _, _, _, _, _, _], []⟩) rfl rfl rfl rfl ?_
          refine EndsOps.nil ?_
          refine Ends.seq ?_
          refine Ends.region ?_
          refine W.op (v := .int .i64 0) (fr1 := ⟨[_, _, _, _, _, _, _, .int .i64 0, _, _, _, _, _, _, _, _, _, _, _, _, _, _, _, _, _, _, _, _, _, _, _, _, _, _, _, _, _, _, _, _, _, _, _, _, _, _, _, _, _, _, _, _, _, _, _, _, _, _, _, _, _, _, _, _, _, _, _, _, _, _, _, _, _, _, _, _, _, _, _, _, _, _, _, _, _], []⟩) rfl rfl rfl rfl ?_
          refine EndsOps.nil ?_
          refine Ends.seq ?_
          refine Ends.seq ?_
          refine Ends.region ?_
          refine W.op (v := .slice al l.length cl) (fr1 := ⟨[_, _, _, _, _, _, _, _, _, _, _, _, _, _, _, _, _, _, _, _, _, _, _, _, _, _, _, .slice al l.length cl, _, _, _, _, _, _, _, _, _, _, _, _, _, _, _, _, _, _, _, _, _, _, _, _, _, _, _, _, _, _, _, _, _, _, _, _, _, _, _, _, _, _, _, _, _, _, _, _, _, _, _, _, _, _, _, _, _], []⟩) rfl rfl rfl rfl ?_
          refine W.op (v := .int .i64 ((l.length : Nat) : Int)) (fr1 := ⟨[_, _, _, _, _, _, _, _, _, _, _, _, _, _, _, _, _, _, _, _, _, _, _, _, _, _, _, _, .int .i64 ((l.length : Nat) : Int), _, _, _, _, _, _, _, _, _, _, _, _, _, _, _, _, _, _, _, _, _, _, _, _, _, _, _, _, _, _, _, _, _, _, _, _, _, _, _, _, _, _, _, _, _, _, _, _, _, _, _, _, _, _, _, _], []⟩) rfl rfl rfl rfl ?_
          refine W.op (v := .int .i64 0) (fr1 := ⟨[_, _, _, _, _, _, _, _, _, _, _, _, _, _, _, _, _, _, _, _, _, _, _, _, _, _, _, _, _, .int .i64 0, _, _, _, _, _, _, _, _, _, _, _, _, _, _, _, _, _, _, _, _, _, _, _, _, _, _, _, _, _, _, _, _, _, _, _, _, _, _, _, _, _, _, _, _, _, _, _, _, _, _, _, _, _, _, _], []⟩) rfl rfl rfl rfl ?_
          refine EndsOps.nil ?_
          refine W.block ?_
          refine Ends.loopInv (fun d fr s1 => ∃ (i : Nat) (j9 j30 j31 j32 j33 j34 j35 j36 j37 j38 : Value), fr = ⟨[.slice al l.length cl, .string x, undef, undef, .bool false, .int .i64 0, .iface 37 (.int .i64 5), .int .i64 (W (sizeF (l.take i))), undef, j9, undef, undef, .bool true, .bool false, .slice al l.length cl, .bool false, .bool false, .string x, .int .i64 (((B x).length : Nat) : Int), .bool false, .bool false, .tuple ⟨[.int .i64 0, .iface 37 (.int .i64 5)]⟩, .slice al l.length cl, .string x, .tuple ⟨[.int .i64 0, .iface 37 (.int .i64 5)]⟩, .int .i64 0, .iface 37 (.int .i64 5), .slice al l.length cl, .int .i64 ((l.length : Nat) : Int), .int .i64 ((i : Nat) : Int), j30, j31, j32, j33, j34, j35, j36, j37, j38, undef, undef, undef, undef, undef, undef, undef, undef, undef, undef, undef, undef, undef, undef, undef, undef, undef, undef, undef, undef, undef, undef, undef, undef, undef, undef, undef, undef, undef, undef, undef, undef, undef, undef, undef, undef, undef, undef, undef, undef, undef, undef, undef, undef, undef, undef], []⟩ ∧ Own s s1 ∧ d = l.length - i ∧ (i ≤ l.length)) ?_ _ _ _ ⟨0, _, _, _, _, _, _, _, _, _, _, rfl, hO15, rfl, Nat.zero_le _⟩
          rintro d _ s17 ⟨i, j9, j30, j31, j32, j33, j34, j35, j36, j37, j38, rfl, hO18, hd19, hi⟩
          refine Ends.seq ?_
          refine Ends.region ?_
          by_cases h20 : ((i : Nat) : Int) < ((l.length : Nat) : Int)
          · skip
            refine W.op (v := .bool true) (fr1 := ⟨[_, _, _, _, _, _, _, _, _, _, _, _, _, _, _, _, _, _, _, _, _, _, _, _, _, _, _, _, _, _, .bool true, _, _, _, _, _, _, _, _, _, _, _, _, _, _, _, _, _, _, _, _, _, _, _, _, _, _, _, _, _, _, _, _, _, _, _, _, _, _, _, _, _, _, _, _, _, _, _, _, _, _, _, _, _, _], []⟩) rfl (p_bin (ltT h20)) rfl rfl ?_
            refine EndsOps.nil ?_
            refine Ends.seq ?_
            refine Ends.condT rfl ?_
            refine Ends.skip ?_
            refine Ends.seq ?_
            refine W.block ?_
            refine Ends.seq ?_
            refine Ends.region ?_
            obtain ⟨e21, he22⟩ := ex_at (l := l) (i := i) (by omega)
            refine W.op (v := .pointer (some ⟨Nl, ol + i * 2, none⟩)) (fr1 := ⟨[_, _, _, _, _, _, _, _, _, _, _, _, _, _, _, _, _, _, _, _, _, _, _, _, _, _, _, _, _, _, _, .pointer (some ⟨Nl, ol + i * 2, none⟩), _, _, _, _, _, _, _, _, _, _, _, _, _, _, _, _, _, _, _, _, _, _, _, _, _, _, _, _, _, _, _, _, _, _, _, _, _, _, _, _, _, _, _, _, _, _, _, _, _, _, _, _, _], []⟩) rfl (p_ix (Sl.ix Hl rfl rfl he22 _)) rfl rfl ?_
            refine W.op (v := .agg ⟨[.string e21.nm, .string e21.tx]⟩) (fr1 := ⟨[_, _, _, _, _, _, _, _, _, _, _, _, _, _, _, _, _, _, _, _, _, _, _, _, _, _, _, _, _, _, _, _, .agg ⟨[.string e21.nm, .string e21.tx]⟩, _, _, _, _, _, _, _, _, _, _, _, _, _, _, _, _, _, _, _, _, _, _, _, _, _, _, _, _, _, _, _, _, _, _, _, _, _, _, _, _, _, _, _, _, _, _, _, _, _, _, _, _], []⟩) rfl (p_loadA (Sl.row' (Hl.own hO18) he22) rfl rfl rfl rfl ((Hl.own hO18).get _ _ he22)) rfl rfl ?_
            obtain ⟨N23, hN24⟩ : ∃ N, N = s17.next := ⟨_, rfl⟩
            refine W.new (N := N23) (vs := [.string ByteArray.empty, .string ByteArray.empty]) (fr1 := ⟨[_, _, _, _, _, _, _, _, _, .pointer (some ⟨N23, 0, none⟩), _, _, _, _, _, _, _, _, _, _, _, _, _, _, _, _, _, _, _, _, _, _, _, _, _, _, _, _, _, _, _, _, _, _, _, _, _, _, _, _, _, _, _, _, _, _, _, _, _, _, _, _, _, _, _, _, _, _, _, _, _, _, _, _, _, _, _, _, _, _, _, _, _, _, _], []⟩) hO18 hN24 rfl (p_alloc zero68 rfl) rfl rfl ?_
            intro s25 hO26 hS27 r28 hB29
            refine W.store2 (cs := [.string e21.nm, .string e21.tx]) (vs' := [.string e21.nm, .string e21.tx]) (fr1 := ⟨[_, _, _, _, _, _, _, _, _, _, _, _, _, _, _, _, _, _, _, _, _, _, _, _, _, _, _, _, _, _, _, _, _, _, _, _, _, _, _, _, _, _, _, _, _, _, _, _, _, _, _, _, _, _, _, _, _, _, _, _, _, _, _, _, _, _, _, _, _, _, _, _, _, _, _, _, _, _, _, _, _, _, _, _, _], []⟩) hO26 r28 hB29 rfl rfl rfl rfl (by kernel_rfl) (by simp) (by simp [END, oneCell]) rfl rfl ?_
            intro s30 hO31 hn32 hu33 r34 hX35
            refine EndsOps.nil ?_
            refine Ends.region ?_
            refine W.op (v := .int .i64 (W (sizeF (l.take i)))) (fr1 := ⟨[_, _, _, _, _, _, _, _, _, _, _, _, _, _, _, _, _, _, _, _, _, _, _, _, _, _, _, _, _, _, _, _, _, .int .i64 (W (sizeF (l.take i))), _, _, _, _, _, _, _, _, _, _, _, _, _, _, _, _, _, _, _, _, _, _, _, _, _, _, _, _, _, _, _, _, _, _, _, _, _, _, _, _, _, _, _, _, _, _, _, _, _, _, _], []⟩) rfl rfl rfl rfl ?_
            refine W.op (v := .pointer (some ⟨N23, 1, none⟩)) (fr1 := ⟨[_, _, _, _, _, _, _, _, _, _, _, _, _, _, _, _, _, _, _, _, _, _, _, _, _, _, _, _, _, _, _, _, _, _, .pointer (some ⟨N23, 1, none⟩), _, _, _, _, _, _, _, _, _, _, _, _, _, _, _, _, _, _, _, _, _, _, _, _, _, _, _, _, _, _, _, _, _, _, _, _, _, _, _, _, _, _, _, _, _, _, _, _, _, _], []⟩) rfl rfl rfl rfl ?_
            refine W.op (v := .string e21.tx) (fr1 := ⟨[_, _, _, _, _, _, _, _, _, _, _, _, _, _, _, _, _, _, _, _, _, _, _, _, _, _, _, _, _, _, _, _, _, _, _, .string e21.tx, _, _, _, _, _, _, _, _, _, _, _, _, _, _, _, _, _, _, _, _, _, _, _, _, _, _, _, _, _, _, _, _, _, _, _, _, _, _, _, _, _, _, _, _, _, _, _, _, _], []⟩) rfl (p_load1 r34 rfl rfl rfl rfl) rfl rfl ?_
            refine W.op (v := .int .i64 (((B e21.tx).length : Nat) : Int)) (fr1 := ⟨[_, _, _, _, _, _, _, _, _, _, _, _, _, _, _, _, _, _, _, _, _, _, _, _, _, _, _, _, _, _, _, _, _, _, _, _, .int .i64 (((B e21.tx).length : Nat) : Int), _, _, _, _, _, _, _, _, _, _, _, _, _, _, _, _, _, _, _, _, _, _, _, _, _, _, _, _, _, _, _, _, _, _, _, _, _, _, _, _, _, _, _, _, _, _, _, _], []⟩) rfl rfl rfl rfl ?_
            refine W.op (v := .int .i64 (W (sizeF (l.take (i + 1))))) (fr1 := ⟨[_, _, _, _, _, _, _, _, _, _, _, _, _, _, _, _, _, _, _, _, _, _, _, _, _, _, _, _, _, _, _, _, _, _, _, _, _, .int .i64 (W (sizeF (l.take (i + 1)))), _, _, _, _, _, _, _, _, _, _, _, _, _, _, _, _, _, _, _, _, _, _, _, _, _, _, _, _, _, _, _, _, _, _, _, _, _, _, _, _, _, _, _, _, _, _, _], []⟩) rfl (p_bin (addW.trans (congrArg (fun z => some (Value.int IntKind.i64 z)) (sizeF_step he22)))) rfl rfl ?_
            refine W.op (v := .int .i64 (W (sizeF (l.take (i + 1))))) (fr1 := ⟨[_, _, _, _, _, _, _, .int .i64 (W (sizeF (l.take (i + 1)))), _, _, _, _, _, _, _, _, _, _, _, _, _, _, _, _, _, _, _, _, _, _, _, _, _, _, _, _, _, _, _, _, _, _, _, _, _, _, _, _, _, _, _, _, _, _, _, _, _, _, _, _, _, _, _, _, _, _, _, _, _, _, _, _, _, _, _, _, _, _, _, _, _, _, _, _, _], []⟩) rfl rfl rfl rfl ?_
            refine EndsOps.nil ?_
            refine Ends.region ?_
            refine W.op (v := .int .i64 ((i + 1 : Nat) : Int)) (fr1 := ⟨[_, _, _, _, _, _, _, _, _, _, _, _, _, _, _, _, _, _, _, _, _, _, _, _, _, _, _, _, _, _, _, _, _, _, _, _, _, _, .int .i64 ((i + 1 : Nat) : Int), _, _, _, _, _, _, _, _, _, _, _, _, _, _, _, _, _, _, _, _, _, _, _, _, _, _, _, _, _, _, _, _, _, _, _, _, _, _, _, _, _, _, _, _, _, _], []⟩) rfl (p_bin (addI (by omega) (by omega) (by omega))) rfl rfl ?_
            refine W.op (v := .int .i64 ((i + 1 : Nat) : Int)) (fr1 := ⟨[_, _, _, _, _, _, _, _, _, _, _, _, _, _, _, _, _, _, _, _, _, _, _, _, _, _, _, _, _, .int .i64 ((i + 1 : Nat) : Int), _, _, _, _, _, _, _, _, _, _, _, _, _, _, _, _, _, _, _, _, _, _, _, _, _, _, _, _, _, _, _, _, _, _, _, _, _, _, _, _, _, _, _, _, _, _, _, _, _, _, _, _, _, _, _], []⟩) rfl rfl rfl rfl ?_
            refine EndsOps.nil ?_
            exact ⟨_, (by omega), i + 1, _, _, _, _, _, _, _, _, _, _, rfl, hO31, rfl, by omega⟩
          · skip
            refine W.op (v := .bool false) (fr1 := ⟨[_, _, _, _, _, _, _, _, _, _, _, _, _, _, _, _, _, _, _, _, _, _, _, _, _, _, _, _, _, _, .bool false, _, _, _, _, _, _, _, _, _, _, _, _, _, _, _, _, _, _, _, _, _, _, _, _, _, _, _, _, _, _, _, _, _, _, _, _, _, _, _, _, _, _, _, _, _, _, _, _, _, _, _, _, _, _], []⟩) rfl (p_bin (ltF h20)) rfl rfl ?_
            refine EndsOps.nil ?_
            refine Ends.seq ?_
            refine Ends.condF rfl ?_
            refine Ends.exit ?_
            refine W.outT rfl ?_
            refine Ends.seq ?_
            refine Ends.region ?_
            refine W.op (v := .slice al l.length cl) (fr1 := ⟨[_, _, _, _, _, _, _, _, _, _, _, _, _, _, _, _, _, _, _, _, _, _, _, _, _, _, _, _, _, _, _, _, _, _, _, _, _, _, _, .slice al l.length cl, _, _, _, _, _, _, _, _, _, _, _, _, _, _, _, _, _, _, _, _, _, _, _, _, _, _, _, _, _, _, _, _, _, _, _, _, _, _, _, _, _, _, _, _, _], []⟩) rfl rfl rfl rfl ?_
            refine W.callE (ar := [.slice al l.length cl]) (fF := fun v36 => ⟨[_, _, _, _, _, _, _, _, _, _, _, _, _, _, _, _, _, _, _, _, _, _, _, _, _, _, _, _, _, _, _, _, _, _, _, _, _, _, _, _, v36, _, _, _, _, _, _, _, _, _, _, _, _, _, _, _, _, _, _, _, _, _, _, _, _, _, _, _, _, _, _, _, _, _, _, _, _, _, _, _, _, _, _, _, _], []⟩) hO18 rfl rfl rfl rfl (c45 _ _ _ _ _ _ _ _ hB C _ (Hl.own hO18)) (fun _ => rfl) ?_
            intro v36 s37 hR40 hO38 hS39
            obtain ⟨a41, N42, v43, rfl, H44⟩ := hR40
            have sm_a41 := H44.small
            refine W.op (v := .slice a41 l.length l.length) (fr1 := ⟨[_, _, _, _, _, _, _, _, _, _, .slice a41 l.length l.length, _, _, _, _, _, _, _, _, _, _, _, _, _, _, _, _, _, _, _, _, _, _, _, _, _, _, _, _, _, _, _, _, _, _, _, _, _, _, _, _, _, _, _, _, _, _, _, _, _, _, _, _, _, _, _, _, _, _, _, _, _, _, _, _, _, _, _, _, _, _, _, _, _, _], []⟩) rfl rfl rfl rfl ?_
            refine EndsOps.nil ?_
            refine Ends.seq ?_
            refine Ends.seq ?_
            refine Ends.region ?_
            refine W.op (v := .slice a41 l.length l.length) (fr1 := ⟨[_, _, _, _, _, _, _, _, _, _, _, _, _, _, _, _, _, _, _, _, _, _, _, _, _, _, _, _, _, _, _, _, _, _, _, _, _, _, _, _, _, .slice a41 l.length l.length, _, _, _, _, _, _, _, _, _, _, _, _, _, _, _, _, _, _, _, _, _, _, _, _, _, _, _, _, _, _, _, _, _, _, _, _, _, _, _, _, _, _, _], []⟩) rfl rfl rfl rfl ?_
            refine W.op (v := .slice al l.length cl) (fr1 := ⟨[_, _, _, _, _, _, _, _, _, _, _, _, _, _, _, _, _, _, _, _, _, _, _, _, _, _, _, _, _, _, _, _, _, _, _, _, _, _, _, _, _, _, .slice al l.length cl, _, _, _, _, _, _, _, _, _, _, _, _, _, _, _, _, _, _, _, _, _, _, _, _, _, _, _, _, _, _, _, _, _, _, _, _, _, _, _, _, _, _], []⟩) rfl rfl rfl rfl ?_
            refine W.call (ar := [.slice a41 l.length l.length, .slice al l.length cl]) (X := .bool true) (fr1 := ⟨[_, _, _, _, _, _, _, _, _, _, _, _, _, _, _, _, _, _, _, _, _, _, _, _, _, _, _, _, _, _, _, _, _, _, _, _, _, _, _, _, _, _, _, .bool true, _, _, _, _, _, _, _, _, _, _, _, _, _, _, _, _, _, _, _, _, _, _, _, _, _, _, _, _, _, _, _, _, _, _, _, _, _, _, _, _, _], []⟩) hO38 rfl rfl rfl rfl ((c46 _ _ _ _ _ _ _ _ _ _ _ _ _ _ _ _ _ (H44.own (Own.refl s37)) (Hl.own hO38)).mono fun v _ _ g => g.trans (congrArg Value.bool (decide_eq_true rfl))) rfl ?_
            intro s45 hO46 hS47
            have hE48 := (Own.refl s37).trans hS47
            refine W.op (v := .bool false) (fr1 := ⟨[_, _, _, _, _, _, _, _, _, _, _, _, _, _, _, _, _, _, _, _, _, _, _, _, _, _, _, _, _, _, _, _, _, _, _, _, _, _, _, _, _, _, _, _, .bool false, _, _, _, _, _, _, _, _, _, _, _, _, _, _, _, _, _, _, _, _, _, _, _, _, _, _, _, _, _, _, _, _, _, _, _, _, _, _, _, _], []⟩) rfl rfl rfl rfl ?_
            refine W.op (v := .bool false) (fr1 := ⟨[_, _, _, _, _, _, _, _, _, _, _, _, _, _, _, _, _, _, _, _, _, _, _, _, _, _, _, _, _, _, _, _, _, _, _, _, _, _, _, _, _, _, _, _, _, .bool false, _, _, _, _, _, _, _, _, _, _, _, _, _, _, _, _, _, _, _, _, _, _, _, _, _, _, _, _, _, _, _, _, _, _, _, _, _, _, _], []⟩) rfl rfl rfl rfl ?_
            refine W.op (v := .slice al l.length cl) (fr1 := ⟨[_, _, _, _, _, _, _, _, _, _, _, _, _, _, _, _, _, _, _, _, _, _, _, _, _, _, _, _, _, _, _, _, _, _, _, _, _, _, _, _, _, _, _, _, _, _, .slice al l.length cl, _, _, _, _, _, _, _, _, _, _, _, _, _, _, _, _, _, _, _, _, _, _, _, _, _, _, _, _, _, _, _, _, _, _, _, _, _, _], []⟩) rfl rfl rfl rfl ?_
            refine W.call (ar := [.slice al l.length cl]) (X := .int .i64 (W (sizeF l))) (fr1 := ⟨[_, _, _, _, _, _, _, _, _, _, _, _, _, _, _, _, _, _, _, _, _, _, _, _, _, _, _, _, _, _, _, _, _, _, _, _, _, _, _, _, _, _, _, _, _, _, _, .int .i64 (W (sizeF l)), _, _, _, _, _, _, _, _, _, _, _, _, _, _, _, _, _, _, _, _, _, _, _, _, _, _, _, _, _, _, _, _, _, _, _, _, _], []⟩) hO46 rfl rfl rfl rfl (c47 _ _ _ _ _ _ _ _ _ (Hl.own hO46)) rfl ?_
            intro s49 hO50 hS51
            have hE52 := hE48.trans hS51
            refine W.op (v := .int .i64 (W (sizeF l))) (fr1 := ⟨[_, _, _, _, _, _, _, _, _, _, _, _, _, _, _, _, _, _, _, _, _, _, _, _, _, _, _, _, _, _, _, _, _, _, _, _, _, _, _, _, _, _, _, _, _, _, _, _, .int .i64 (W (sizeF l)), _, _, _, _, _, _, _, _, _, _, _, _, _, _, _, _, _, _, _, _, _, _, _, _, _, _, _, _, _, _, _, _, _, _, _, _], []⟩) rfl (by rw [show sizeF l = sizeF (l.take i) by rw [show i = l.length by omega, List.take_length]]; rfl) rfl rfl ?_
            refine W.op (v := .bool false) (fr1 := ⟨[_, _, _, _, _, _, _, _, _, _, _, _, _, _, _, _, _, _, _, _, _, _, _, _, _, _, _, _, _, _, _, _, _, _, _, _, _, _, _, _, _, _, _, _, _, _, _, _, _, .bool false, _, _, _, _, _, _, _, _, _, _, _, _, _, _, _, _, _, _, _, _, _, _, _, _, _, _, _, _, _, _, _, _, _, _, _], []⟩) rfl (p_bin (neF rfl)) rfl rfl ?_
            refine W.op (v := .bool false) (fr1 := ⟨[_, _, _, _, _, _, _, _, _, _, _, _, _, _, _, _, _, _, _, _, _, _, _, _, _, _, _, _, _, _, _, _, _, _, _, _, _, _, _, _, _, _, _, _, _, _, _, _, _, _, .bool false, _, _, _, _, _, _, _, _, _, _, _, _, _, _, _, _, _, _, _, _, _, _, _, _, _, _, _, _, _, _, _, _, _, _], []⟩) rfl rfl rfl rfl ?_
            refine W.op (v := .bool false) (fr1 := ⟨[_, _, _, _, _, _, _, _, _, _, _, _, _, _, _, _, _, _, _, _, _, _, _, _, _, _, _, _, _, _, _, _, _, _, _, _, _, _, _, _, _, _, _, _, _, _, _, _, _, _, _, .bool false, _, _, _, _, _, _, _, _, _, _, _, _, _, _, _, _, _, _, _, _, _, _, _, _, _, _, _, _, _, _, _, _, _], []⟩) rfl rfl rfl rfl ?_
            refine W.op (v := .slice al l.length cl) (fr1 := ⟨[_, _, _, _, _, _, _, _, _, _, _, _, _, _, _, _, _, _, _, _, _, _, _, _, _, _, _, _, _, _, _, _, _, _, _, _, _, _, _, _, _, _, _, _, _, _, _, _, _, _, _, _, .slice al l.length cl, _, _, _, _, _, _, _, _, _, _, _, _, _, _, _, _, _, _, _, _, _, _, _, _, _, _, _, _, _, _, _, _], []⟩) rfl rfl rfl rfl ?_
            refine W.call (ar := [.slice al l.length cl]) (X := .bool true) (fr1 := ⟨[_, _, _, _, _, _, _, _, _, _, _, _, _, _, _, _, _, _, _, _, _, _, _, _, _, _, _, _, _, _, _, _, _, _, _, _, _, _, _, _, _, _, _, _, _, _, _, _, _, _, _, _, _, .bool true, _, _, _, _, _, _, _, _, _, _, _, _, _, _, _, _, _, _, _, _, _, _, _, _, _, _, _, _, _, _, _], []⟩) hO50 rfl rfl rfl rfl ((c48 _ _ _ _ _ _ _ _ _ (Hl.own hO50)).mono fun v _ _ h => h.trans (congrArg Value.bool (decide_eq_true h12))) rfl ?_
            intro s53 hO54 hS55
            have hE56 := hE52.trans hS55
            refine W.op (v := .slice al l.length cl) (fr1 := ⟨[_, _, _, _, _, _, _, _, _, _, _, _, _, _, _, _, _, _, _, _, _, _, _, _, _, _, _, _, _, _, _, _, _, _, _, _, _, _, _, _, _, _, _, _, _, _, _, _, _, _, _, _, _, _, .slice al l.length cl, _, _, _, _, _, _, _, _, _, _, _, _, _, _, _, _, _, _, _, _, _, _, _, _, _, _, _, _, _, _], []⟩) rfl rfl rfl rfl ?_
            refine W.call (ar := [.slice al l.length cl]) (X := .bool true) (fr1 := ⟨[_, _, _, _, _, _, _, _, _, _, _, _, _, _, _, _, _, _, _, _, _, _, _, _, _, _, _, _, _, _, _, _, _, _, _, _, _, _, _, _, _, _, _, _, _, _, _, _, _, _, _, _, _, _, _, .bool true, _, _, _, _, _, _, _, _, _, _, _, _, _, _, _, _, _, _, _, _, _, _, _, _, _, _, _, _, _], []⟩) hO54 rfl rfl rfl rfl ((c49 _ _ _ _ _ _ _ _ K _ (Hl.own hO54)).mono fun v _ _ h => h.trans (congrArg Value.bool (decide_eq_true h12))) rfl ?_
            intro s57 hO58 hS59
            have hE60 := hE56.trans hS59
            refine W.op (v := .bool false) (fr1 := ⟨[_, _, _, _, _, _, _, _, _, _, _, _, _, _, _, _, _, _, _, _, _, _, _, _, _, _, _, _, _, _, _, _, _, _, _, _, _, _, _, _, _, _, _, _, _, _, _, _, _, _, _, _, _, _, _, _, .bool false, _, _, _, _, _, _, _, _, _, _, _, _, _, _, _, _, _, _, _, _, _, _, _, _, _, _, _, _], []⟩) rfl rfl rfl rfl ?_
            refine W.op (v := .bool false) (fr1 := ⟨[_, _, _, _, _, _, _, _, _, _, _, _, _, _, _, _, _, _, _, _, _, _, _, _, _, _, _, _, _, _, _, _, _, _, _, _, _, _, _, _, _, _, _, _, _, _, _, _, _, _, _, _, _, _, _, _, _, .bool false, _, _, _, _, _, _, _, _, _, _, _, _, _, _, _, _, _, _, _, _, _, _, _, _, _, _, _], []⟩) rfl rfl rfl rfl ?_
            refine EndsOps.nil ?_
            refine Ends.condF rfl ?_
            refine Ends.skip ?_
            refine Ends.seq ?_
            refine Ends.seq ?_
            refine Ends.region ?_
            refine W.op (v := .slice al l.length cl) (fr1 := ⟨[_, _, _, _, _, _, _, _, _, _, _, _, _, _, _, _, _, _, _, _, _, _, _, _, _, _, _, _, _, _, _, _, _, _, _, _, _, _, _, _, _, _, _, _, _, _, _, _, _, _, _, _, _, _, _, _, _, _, .slice al l.length cl, _, _, _, _, _, _, _, _, _, _, _, _, _, _, _, _, _, _, _, _, _, _, _, _, _, _], []⟩) rfl rfl rfl rfl ?_
            refine W.call (ar := [.slice al l.length cl]) (X := .bool true) (fr1 := ⟨[_, _, _, _, _, _, _, _, _, _, _, _, _, _, _, _, _, _, _, _, _, _, _, _, _, _, _, _, _, _, _, _, _, _, _, _, _, _, _, _, _, _, _, _, _, _, _, _, _, _, _, _, _, _, _, _, _, _, _, .bool true, _, _, _, _, _, _, _, _, _, _, _, _, _, _, _, _, _, _, _, _, _, _, _, _, _], []⟩) hO58 rfl rfl rfl rfl ((c49 _ _ _ _ _ _ _ _ K _ (Hl.own hO58)).mono fun v _ _ h => h.trans (congrArg Value.bool (decide_eq_true h12))) rfl ?_
            intro s61 hO62 hS63
            have hE64 := hE60.trans hS63
            refine W.op (v := .bool false) (fr1 := ⟨[_, _, _, _, _, _, _, _, _, _, _, _, _, _, _, _, _, _, _, _, _, _, _, _, _, _, _, _, _, _, _, _, _, _, _, _, _, _, _, _, _, _, _, _, _, _, _, _, _, _, _, _, _, _, _, _, _, _, _, _, .bool false, _, _, _, _, _, _, _, _, _, _, _, _, _, _, _, _, _, _, _, _, _, _, _, _], []⟩) rfl rfl rfl rfl ?_
            refine EndsOps.nil ?_
            refine Ends.condF rfl ?_
            refine Ends.skip ?_
            refine Ends.seq ?_
            refine Ends.seq ?_
            refine Ends.region ?_
            refine W.op (v := .slice al l.length cl) (fr1 := ⟨[_, _, _, _, _, _, _, _, _, _, _, _, _, _, _, _, _, _, _, _, _, _, _, _, _, _, _, _, _, _, _, _, _, _, _, _, _, _, _, _, _, _, _, _, _, _, _, _, _, _, _, _, _, _, _, _, _, _, _, _, _, _, _, _, _, _, _, .slice al l.length cl, _, _, _, _, _, _, _, _, _, _, _, _, _, _, _, _, _], []⟩) rfl rfl rfl rfl ?_
            refine W.op (v := .string x) (fr1 := ⟨[_, _, _, _, _, _, _, _, _, _, _, _, _, _, _, _, _, _, _, _, _, _, _, _, _, _, _, _, _, _, _, _, _, _, _, _, _, _, _, _, _, _, _, _, _, _, _, _, _, _, _, _, _, _, _, _, _, _, _, _, _, _, _, _, _, _, _, _, .string x, _, _, _, _, _, _, _, _, _, _, _, _, _, _, _, _], []⟩) rfl rfl rfl rfl ?_
            refine W.call (ar := [.slice al l.length cl, .string x]) (X := .int .i64 (placeS l x)) (fr1 := ⟨[_, _, _, _, _, _, _, _, _, _, _, _, _, _, _, _, _, _, _, _, _, _, _, _, _, _, _, _, _, _, _, _, _, _, _, _, _, _, _, _, _, _, _, _, _, _, _, _, _, _, _, _, _, _, _, _, _, _, _, _, _, _, _, _, _, _, _, _, _, .int .i64 (placeS l x), _, _, _, _, _, _, _, _, _, _, _, _, _, _, _], []⟩) hO62 rfl rfl rfl rfl (c50 _ _ _ _ _ _ _ _ x _ (Hl.own hO62)) rfl ?_
            intro s65 hO66 hS67
            have hE68 := hE64.trans hS67
            refine W.op (v := .int .i64 (placeS l x)) (fr1 := ⟨[_, _, _, _, _, _, _, _, _, _, _, .int .i64 (placeS l x), _, _, _, _, _, _, _, _, _, _, _, _, _, _, _, _, _, _, _, _, _, _, _, _, _, _, _, _, _, _, _, _, _, _, _, _, _, _, _, _, _, _, _, _, _, _, _, _, _, _, _, _, _, _, _, _, _, _, _, _, _, _, _, _, _, _, _, _, _, _, _, _, _], []⟩) rfl rfl rfl rfl ?_
            refine EndsOps.nil ?_
            refine Ends.seq ?_
            refine Ends.region ?_
            refine W.op (v := .int .i64 (placeS l x)) (fr1 := ⟨[_, _, _, _, _, _, _, _, _, _, _, _, _, _, _, _, _, _, _, _, _, _, _, _, _, _, _, _, _, _, _, _, _, _, _, _, _, _, _, _, _, _, _, _, _, _, _, _, _, _, _, _, _, _, _, _, _, _, _, _, _, _, _, _, _, _, _, _, _, _, .int .i64 (placeS l x), _, _, _, _, _, _, _, _, _, _, _, _, _, _], []⟩) rfl rfl rfl rfl ?_
            by_cases h69 : (0 : Int) ≤ placeS l x
            · skip
              exact absurd h13 (by omega)
            · skip
              refine W.op (v := .bool false) (fr1 := ⟨[_, _, _, _, _, _, _, _, _, _, _, _, _, _, _, _, _, _, _, _, _, _, _, _, _, _, _, _, _, _, _, _, _, _, _, _, _, _, _, _, _, _, _, _, _, _, _, _, _, _, _, _, _, _, _, _, _, _, _, _, _, _, _, _, _, _, _, _, _, _, _, .bool false, _, _, _, _, _, _, _, _, _, _, _, _, _], []⟩) rfl (p_bin (geF h69)) rfl rfl ?_
              refine EndsOps.nil ?_
              refine Ends.condF rfl ?_
              refine Ends.skip ?_
              refine Ends.seq ?_
              refine Ends.region ?_
              refine W.op (v := .iface 37 (.int .i64 5)) (fr1 := ⟨[_, _, _, _, _, _, _, _, _, _, _, _, _, _, _, _, _, _, _, _, _, _, _, _, _, _, _, _, _, _, _, _, _, _, _, _, _, _, _, _, _, _, _, _, _, _, _, _, _, _, _, _, _, _, _, _, _, _, _, _, _, _, _, _, _, _, _, _, _, _, _, _, _, _, _, _, _, _, _, .iface 37 (.int .i64 5), _, _, _, _, _], []⟩) rfl rfl rfl rfl ?_
              refine W.call (ar := [.iface 37 (.int .i64 5), .int .i64 5]) (X := .bool true) (fr1 := ⟨[_, _, _, _, _, _, _, _, _, _, _, _, _, _, _, _, _, _, _, _, _, _, _, _, _, _, _, _, _, _, _, _, _, _, _, _, _, _, _, _, _, _, _, _, _, _, _, _, _, _, _, _, _, _, _, _, _, _, _, _, _, _, _, _, _, _, _, _, _, _, _, _, _, _, _, _, _, _, _, _, .bool true, _, _, _, _], []⟩) hO66 rfl rfl rfl rfl (c24 5 5 (by decide) _) rfl ?_
              intro s70 hO71 hS72
              have hE73 := hE68.trans hS72
              refine W.op (v := .bool true) (fr1 := ⟨[_, _, _, _, _, _, _, _, _, _, _, _, _, _, _, _, _, _, _, _, _, _, _, _, _, _, _, _, _, _, _, _, _, _, _, _, _, _, _, _, _, _, _, _, _, _, _, _, _, _, _, _, _, _, _, _, _, _, _, _, _, _, _, _, _, _, _, _, _, _, _, _, _, _, _, _, _, _, _, _, _, .bool true, _, _, _], []⟩) rfl rfl rfl rfl ?_
              refine W.op (v := .int .i64 0) (fr1 := ⟨[_, _, _, _, _, _, _, _, _, _, _, _, _, _, _, _, _, _, _, _, _, _, _, _, _, _, _, _, _, _, _, _, _, _, _, _, _, _, _, _, _, _, _, _, _, _, _, _, _, _, _, _, _, _, _, _, _, _, _, _, _, _, _, _, _, _, _, _, _, _, _, _, _, _, _, _, _, _, _, _, _, _, .int .i64 0, _, _], []⟩) rfl rfl rfl rfl ?_
              refine W.op (v := .bool true) (fr1 := ⟨[_, _, _, _, _, _, _, _, _, _, _, _, _, _, _, _, _, _, _, _, _, _, _, _, _, _, _, _, _, _, _, _, _, _, _, _, _, _, _, _, _, _, _, _, _, _, _, _, _, _, _, _, _, _, _, _, _, _, _, _, _, _, _, _, _, _, _, _, _, _, _, _, _, _, _, _, _, _, _, _, _, _, _, .bool true, _], []⟩) rfl rfl rfl rfl ?_
              refine W.op (v := .bool true) (fr1 := ⟨[_, _, _, _, _, _, _, _, _, _, _, _, _, _, _, _, _, _, _, _, _, _, _, _, _, _, _, _, _, _, _, _, _, _, _, _, _, _, _, _, _, _, _, _, _, _, _, _, _, _, _, _, _, _, _, _, _, _, _, _, _, _, _, _, _, _, _, _, _, _, _, _, _, _, _, _, _, _, _, _, _, _, _, _, .bool true], []⟩) rfl rfl rfl rfl ?_
              refine W.op (v := .bool true) (fr1 := ⟨[_, _, _, _, .bool true, _, _, _, _, _, _, _, _, _, _, _, _, _, _, _, _, _, _, _, _, _, _, _, _, _, _, _, _, _, _, _, _, _, _, _, _, _, _, _, _, _, _, _, _, _, _, _, _, _, _, _, _, _, _, _, _, _, _, _, _, _, _, _, _, _, _, _, _, _, _, _, _, _, _, _, _, _, _, _, _], []⟩) rfl rfl rfl rfl ?_
              refine EndsOps.nil ?_
              refine Ends.ret ?_
              exact ⟨rfl, rfl, hO71, by
                show Value.bool true = Value.bool true
                rfl⟩
        · skip
          refine W.call (ar := [.slice al l.length cl, .string x]) (X := .tuple ⟨[.int .i64 (placeS l x), .nilIface]⟩) (fr1 := ⟨[_, _, _, _, _, _, _, _, _, _, _, _, _, _, _, _, _, _, _, _, _, _, _, _, .tuple ⟨[.int .i64 (placeS l x), .nilIface]⟩, _, _, _, _, _, _, _, _, _, _, _, _, _, _, _, _, _, _, _, _, _, _, _, _, _, _, _, _, _, _, _, _, _, _, _, _, _, _, _, _, _, _, _, _, _, _, _, _, _, _, _, _, _, _, _, _, _, _, _, _], []⟩) hO9 rfl rfl rfl rfl ((c44T _ _ _ _ _ _ _ _ x h12 _ (Hl.own hO9)).mono fun v _ _ h => h.trans (if_neg h13)) rfl ?_
          intro s74 hO75 hS76
          refine W.op (v := .tuple ⟨[.int .i64 (placeS l x), .nilIface]⟩) (fr1 := ⟨[_, _, _, _, _, _, _, _, _, _, _, _, _, _, _, _, _, _, _, _, _, .tuple ⟨[.int .i64 (placeS l x), .nilIface]⟩, _, _, _, _, _, _, _, _, _, _, _, _, _, _, _, _, _, _, _, _, _, _, _, _, _, _, _, _, _, _, _, _, _, _, _, _, _, _, _, _, _, _, _, _, _, _, _, _, _, _, _, _, _, _, _, _, _, _, _, _, _, _, _], []⟩) rfl rfl rfl rfl ?_
          refine W.op (v := .int .i64 (placeS l x)) (fr1 := ⟨[_, _, _, _, _, _, _, _, _, _, _, _, _, _, _, _, _, _, _, _, _, _, _, _, _, .int .i64 (placeS l x), _, _, _, _, _, _, _, _, _, _, _, _, _, _, _, _, _, _, _, _, _, _, _, _, _, _, _, _, _, _, _, _, _, _, _, _, _, _, _, _, _, _, _, _, _, _, _, _, _, _, _, _, _, _, _, _, _, _, _], []⟩) rfl rfl rfl rfl ?_
          refine W.op (v := .nilIface) (fr1 := ⟨[_, _, _, _, _, _, _, _, _, _, _, _, _, _, _, _, _, _, _, _, _, _, _, _, _, _, .nilIface, _, _, _, _, _, _, _, _, _, _, _, _, _, _, _, _, _, _, _, _, _, _, _, _, _, _, _, _, _, _, _, _, _, _, _, _, _, _, _, _, _, _, _, _, _, _, _, _, _, _, _, _, _, _, _, _, _, _], []⟩) rfl rfl rfl rfl ?_
          refine W.op (v := .int .i64 (placeS l x)) (fr1 := ⟨[_, _, _, _, _, .int .i64 (placeS l x), _, _, _, _, _, _, _, _, _, _, _, _, _, _, _, _, _, _, _, _, _, _, _, _, _, _, _, _, _, _, _, _, _, _, _, _, _, _, _, _, _, _, _, _, _, _, _, _, _, _, _, _, _, _, _, _, _, _, _, _, _, _, _, _, _, _, _, _, _, _, _, _, _, _, _, _, _, _, _], []⟩) rfl rfl rfl rfl ?_
          refine W.op (v := .nilIface) (fr1 := ⟨[_, _, _, _, _, _, .nilIface, _, _, _, _, _, _, _, _, _, _, _, _, _, _, _, _, _, _, _, _, _, _, _, _, _, _, _, _, _, _, _, _, _, _, _, _, _, _, _, _, _, _, _, _, _, _, _, _, _, _, _, _, _, _, _, _, _, _, _, _, _, _, _, _, _, _, _, _, _, _, _, _, _, _, _, _, _, _], []⟩) rfl rfl rfl rfl ?_
          refine EndsOps.nil ?_
          refine Ends.seq ?_
          refine Ends.region ?_
          refine W.op (v := .int .i64 0) (fr1 := ⟨[_, _, _, _, _, _, _, .int .i64 0, _, _, _, _, _, _, _, _, _, _, _, _, _, _, _, _, _, _, _, _, _, _, _, _, _, _, _, _, _, _, _, _, _, _, _, _, _, _, _, _, _, _, _, _, _, _, _, _, _, _, _, _, _, _, _, _, _, _, _, _, _, _, _, _, _, _, _, _, _, _, _, _, _, _, _, _, _], []⟩) rfl rfl rfl rfl ?_
          refine EndsOps.nil ?_
          refine Ends.seq ?_
          refine Ends.seq ?_
          refine Ends.region ?_
          refine W.op (v := .slice al l.length cl) (fr1 := ⟨[_, _, _, _, _, _, _, _, _, _, _, _, _, _, _, _, _, _, _, _, _, _, _, _, _, _, _, .slice al l.length cl, _, _, _, _, _, _, _, _, _, _, _, _, _, _, _, _, _, _, _, _, _, _, _, _, _, _, _, _, _, _, _, _, _, _, _, _, _, _, _, _, _, _, _, _, _, _, _, _, _, _, _, _, _, _, _, _, _], []⟩) rfl rfl rfl rfl ?_
          refine W.op (v := .int .i64 ((l.length : Nat) : Int)) (fr1 := ⟨[_, _, _, _, _, _, _, _, _, _, _, _, _, _, _, _, _, _, _, _, _, _, _, _, _, _, _, _, .int .i64 ((l.length : Nat) : Int), _, _, _, _, _, _, _, _, _, _, _, _, _, _, _, _, _, _, _, _, _, _, _, _, _, _, _, _, _, _, _, _, _, _, _, _, _, _, _, _, _, _, _, _, _, _, _, _, _, _, _, _, _, _, _, _], []⟩) rfl rfl rfl rfl ?_
          refine W.op (v := .int .i64 0) (fr1 := ⟨[_, _, _, _, _, _, _, _, _, _, _, _, _, _, _, _, _, _, _, _, _, _, _, _, _, _, _, _, _, .int .i64 0, _, _, _, _, _, _, _, _, _, _, _, _, _, _, _, _, _, _, _, _, _, _, _, _, _, _, _, _, _, _, _, _, _, _, _, _, _, _, _, _, _, _, _, _, _, _, _, _, _, _, _, _, _, _, _], []⟩) rfl rfl rfl rfl ?_
          refine EndsOps.nil ?_
          refine W.block ?_
          refine Ends.loopInv (fun d fr s1 => ∃ (i : Nat) (j9 j30 j31 j32 j33 j34 j35 j36 j37 j38 : Value), fr = ⟨[.slice al l.length cl, .string x, undef, undef, .bool false, .int .i64 (placeS l x), .nilIface, .int .i64 (W (sizeF (l.take i))), undef, j9, undef, undef, .bool true, .bool false, .slice al l.length cl, .bool false, .bool false, .string x, .int .i64 (((B x).length : Nat) : Int), .bool false, .bool false, .tuple ⟨[.int .i64 (placeS l x), .nilIface]⟩, .slice al l.length cl, .string x, .tuple ⟨[.int .i64 (placeS l x), .nilIface]⟩, .int .i64 (placeS l x), .nilIface, .slice al l.length cl, .int .i64 ((l.length : Nat) : Int), .int .i64 ((i : Nat) : Int), j30, j31, j32, j33, j34, j35, j36, j37, j38, undef, undef, undef, undef, undef, undef, undef, undef, undef, undef, undef, undef, undef, undef, undef, undef, undef, undef, undef, undef, undef, undef, undef, undef, undef, undef, undef, undef, undef, undef, undef, undef, undef, undef, undef, undef, undef, undef, undef, undef, undef, undef, undef, undef, undef, undef], []⟩ ∧ Own s s1 ∧ d = l.length - i ∧ (i ≤ l.length)) ?_ _ _ _ ⟨0, _, _, _, _, _, _, _, _, _, _, rfl, hO75, rfl, Nat.zero_le _⟩
          rintro d _ s77 ⟨i, j9, j30, j31, j32, j33, j34, j35, j36, j37, j38, rfl, hO78, hd79, hi⟩
          refine Ends.seq ?_
          refine Ends.region ?_
          by_cases h80 : ((i : Nat) : Int) < ((l.length : Nat) : Int)
          · skip
            refine W.op (v := .bool true) (fr1 := ⟨[_, _, _, _, _, _, _, _, _, _, _, _, _, _, _, _, _, _, _, _, _, _, _, _, _, _, _, _, _, _, .bool true, _, _, _, _, _, _, _, _, _, _, _, _, _, _, _, _, _, _, _, _, _, _, _, _, _, _, _, _, _, _, _, _, _, _, _, _, _, _, _, _, _, _, _, _, _, _, _, _, _, _, _, _, _, _], []⟩) rfl (p_bin (ltT h80)) rfl rfl ?_
            refine EndsOps.nil ?_
            refine Ends.seq ?_
            refine Ends.condT rfl ?_
            refine Ends.skip ?_
            refine Ends.seq ?_
            refine W.block ?_
            refine Ends.seq ?_
            refine Ends.region ?_
            obtain ⟨e81, he82⟩ := ex_at (l := l) (i := i) (by omega)
            refine W.op (v := .pointer (some ⟨Nl, ol + i * 2, none⟩)) (fr1 := ⟨[_, _, _, _, _, _, _, _, _, _, _, _, _, _, _, _, _, _, _, _, _, _, _, _, _, _, _, _, _, _, _, .pointer (some ⟨Nl, ol + i * 2, none⟩), _, _, _, _, _, _, _, _, _, _, _, _, _, _, _, _, _, _, _, _, _, _, _, _, _, _, _, _, _, _, _, _, _, _, _, _, _, _, _, _, _, _, _, _, _, _, _, _, _, _, _, _, _], []⟩) rfl (p_ix (Sl.ix Hl rfl rfl he82 _)) rfl rfl ?_
            refine W.op (v := .agg ⟨[.string e81.nm, .string e81.tx]⟩) (fr1 := ⟨[_, _, _, _, _, _, _, _, _, _, _, _, _, _, _, _, _, _, _, _, _, _, _, _, _, _, _, _, _, _, _, _, .agg ⟨[.string e81.nm, .string e81.tx]⟩, _, _, _, _, _, _, _, _, _, _, _, _, _, _, _, _, _, _, _, _, _, _, _, _, _, _, _, _, _, _, _, _, _, _, _, _, _, _, _, _, _, _, _, _, _, _, _, _, _, _, _, _], []⟩) rfl (p_loadA (Sl.row' (Hl.own hO78) he82) rfl rfl rfl rfl ((Hl.own hO78).get _ _ he82)) rfl rfl ?_
            obtain ⟨N83, hN84⟩ : ∃ N, N = s77.next := ⟨_, rfl⟩
            refine W.new (N := N83) (vs := [.string ByteArray.empty, .string ByteArray.empty]) (fr1 := ⟨[_, _, _, _, _, _, _, _, _, .pointer (some ⟨N83, 0, none⟩), _, _, _, _, _, _, _, _, _, _, _, _, _, _, _, _, _, _, _, _, _, _, _, _, _, _, _, _, _, _, _, _, _, _, _, _, _, _, _, _, _, _, _, _, _, _, _, _, _, _, _, _, _, _, _, _, _, _, _, _, _, _, _, _, _, _, _, _, _, _, _, _, _, _, _], []⟩) hO78 hN84 rfl (p_alloc zero68 rfl) rfl rfl ?_
            intro s85 hO86 hS87 r88 hB89
            refine W.store2 (cs := [.string e81.nm, .string e81.tx]) (vs' := [.string e81.nm, .string e81.tx]) (fr1 := ⟨[_, _, _, _, _, _, _, _, _, _, _, _, _, _, _, _, _, _, _, _, _, _, _, _, _, _, _, _, _, _, _, _, _, _, _, _, _, _, _, _, _, _, _, _, _, _, _, _, _, _, _, _, _, _, _, _, _, _, _, _, _, _, _, _, _, _, _, _, _, _, _, _, _, _, _, _, _, _, _, _, _, _, _, _, _], []⟩) hO86 r88 hB89 rfl rfl rfl rfl (by kernel_rfl) (by simp) (by simp [END, oneCell]) rfl rfl ?_
            intro s90 hO91 hn92 hu93 r94 hX95
            refine EndsOps.nil ?_
            refine Ends.region ?_
            refine W.op (v := .int .i64 (W (sizeF (l.take i)))) (fr1 := ⟨[_, _, _, _, _, _, _, _, _, _, _, _, _, _, _, _, _, _, _, _, _, _, _, _, _, _, _, _, _, _, _, _, _, .int .i64 (W (sizeF (l.take i))), _, _, _, _, _, _, _, _, _, _, _, _, _, _, _, _, _, _, _, _, _, _, _, _, _, _, _, _, _, _, _, _, _, _, _, _, _, _, _, _, _, _, _, _, _, _, _, _, _, _, _], []⟩) rfl rfl rfl rfl ?_
            refine W.op (v := .pointer (some ⟨N83, 1, none⟩)) (fr1 := ⟨[_, _, _, _, _, _, _, _, _, _, _, _, _, _, _, _, _, _, _, _, _, _, _, _, _, _, _, _, _, _, _, _, _, _, .pointer (some ⟨N83, 1, none⟩), _, _, _, _, _, _, _, _, _, _, _, _, _, _, _, _, _, _, _, _, _, _, _, _, _, _, _, _, _, _, _, _, _, _, _, _, _, _, _, _, _, _, _, _, _, _, _, _, _, _], []⟩) rfl rfl rfl rfl ?_
            refine W.op (v := .string e81.tx) (fr1 := ⟨[_, _, _, _, _, _, _, _, _, _, _, _, _, _, _, _, _, _, _, _, _, _, _, _, _, _, _, _, _, _, _, _, _, _, _, .string e81.tx, _, _, _, _, _, _, _, _, _, _, _, _, _, _, _, _, _, _, _, _, _, _, _, _, _, _, _, _, _, _, _, _, _, _, _, _, _, _, _, _, _, _, _, _, _, _, _, _, _], []⟩) rfl (p_load1 r94 rfl rfl rfl rfl) rfl rfl ?_
            refine W.op (v := .int .i64 (((B e81.tx).length : Nat) : Int)) (fr1 := ⟨[_, _, _, _, _, _, _, _, _, _, _, _, _, _, _, _, _, _, _, _, _, _, _, _, _, _, _, _, _, _, _, _, _, _, _, _, .int .i64 (((B e81.tx).length : Nat) : Int), _, _, _, _, _, _, _, _, _, _, _, _, _, _, _, _, _, _, _, _, _, _, _, _, _, _, _, _, _, _, _, _, _, _, _, _, _, _, _, _, _, _, _, _, _, _, _, _], []⟩) rfl rfl rfl rfl ?_
            refine W.op (v := .int .i64 (W (sizeF (l.take (i + 1))))) (fr1 := ⟨[_, _, _, _, _, _, _, _, _, _, _, _, _, _, _, _, _, _, _, _, _, _, _, _, _, _, _, _, _, _, _, _, _, _, _, _, _, .int .i64 (W (sizeF (l.take (i + 1)))), _, _, _, _, _, _, _, _, _, _, _, _, _, _, _, _, _, _, _, _, _, _, _, _, _, _, _, _, _, _, _, _, _, _, _, _, _, _, _, _, _, _, _, _, _, _, _], []⟩) rfl (p_bin (addW.trans (congrArg (fun z => some (Value.int IntKind.i64 z)) (sizeF_step he82)))) rfl rfl ?_
            refine W.op (v := .int .i64 (W (sizeF (l.take (i + 1))))) (fr1 := ⟨[_, _, _, _, _, _, _, .int .i64 (W (sizeF (l.take (i + 1)))), _, _, _, _, _, _, _, _, _, _, _, _, _, _, _, _, _, _, _, _, _, _, _, _, _, _, _, _, _, _, _, _, _, _, _, _, _, _, _, _, _, _, _, _, _, _, _, _, _, _, _, _, _, _, _, _, _, _, _, _, _, _, _, _, _, _, _, _, _, _, _, _, _, _, _, _, _], []⟩) rfl rfl rfl rfl ?_
            refine EndsOps.nil ?_
            refine Ends.region ?_
            refine W.op (v := .int .i64 ((i + 1 : Nat) : Int)) (fr1 := ⟨[_, _, _, _, _, _, _, _, _, _, _, _, _, _, _, _, _, _, _, _, _, _, _, _, _, _, _, _, _, _, _, _, _, _, _, _, _, _, .int .i64 ((i + 1 : Nat) : Int), _, _, _, _, _, _, _, _, _, _, _, _, _, _, _, _, _, _, _, _, _, _, _, _, _, _, _, _, _, _, _, _, _, _, _, _, _, _, _, _, _, _, _, _, _, _], []⟩) rfl (p_bin (addI (by omega) (by omega) (by omega))) rfl rfl ?_
            refine W.op (v := .int .i64 ((i + 1 : Nat) : Int)) (fr1 := ⟨[_, _, _, _, _, _, _, _, _, _, _, _, _, _, _, _, _, _, _, _, _, _, _, _, _, _, _, _, _, .int .i64 ((i + 1 : Nat) : Int), _, _, _, _, _, _, _, _, _, _, _, _, _, _, _, _, _, _, _, _, _, _, _, _, _, _, _, _, _, _, _, _, _, _, _, _, _, _, _, _, _, _, _, _, _, _, _, _, _, _, _, _, _, _, _], []⟩) rfl rfl rfl rfl ?_
            refine EndsOps.nil ?_
            exact ⟨_, (by omega), i + 1, _, _, _, _, _, _, _, _, _, _, rfl, hO91, rfl, by omega⟩
          · skip
            refine W.op (v := .bool false) (fr1 := ⟨[_, _, _, _, _, _, _, _, _, _, _, _, _, _, _, _, _, _, _, _, _, _, _, _, _, _, _, _, _, _, .bool false, _, _, _, _, _, _, _, _, _, _, _, _, _, _, _, _, _, _, _, _, _, _, _, _, _, _, _, _, _, _, _, _, _, _, _, _, _, _, _, _, _, _, _, _, _, _, _, _, _, _, _, _, _, _], []⟩) rfl (p_bin (ltF h80)) rfl rfl ?_
            refine EndsOps.nil ?_
            refine Ends.seq ?_
            refine Ends.condF rfl ?_
            refine Ends.exit ?_
            refine W.outT rfl ?_
            refine Ends.seq ?_
            refine Ends.region ?_
            refine W.op (v := .slice al l.length cl) (fr1 := ⟨[_, _, _, _, _, _, _, _, _, _, _, _, _, _, _, _, _, _, _, _, _, _, _, _, _, _, _, _, _, _, _, _, _, _, _, _, _, _, _, .slice al l.length cl, _, _, _, _, _, _, _, _, _, _, _, _, _, _, _, _, _, _, _, _, _, _, _, _, _, _, _, _, _, _, _, _, _, _, _, _, _, _, _, _, _, _, _, _, _], []⟩) rfl rfl rfl rfl ?_
            refine W.callE (ar := [.slice al l.length cl]) (fF := fun v96 => ⟨[_, _, _, _, _, _, _, _, _, _, _, _, _, _, _, _, _, _, _, _, _, _, _, _, _, _, _, _, _, _, _, _, _, _, _, _, _, _, _, _, v96, _, _, _, _, _, _, _, _, _, _, _, _, _, _, _, _, _, _, _, _, _, _, _, _, _, _, _, _, _, _, _, _, _, _, _, _, _, _, _, _, _, _, _, _], []⟩) hO78 rfl rfl rfl rfl (c45 _ _ _ _ _ _ _ _ hB C _ (Hl.own hO78)) (fun _ => rfl) ?_
            intro v96 s97 hR100 hO98 hS99
            obtain ⟨a101, N102, v103, rfl, H104⟩ := hR100
            have sm_a101 := H104.small
            refine W.op (v := .slice a101 l.length l.length) (fr1 := ⟨[_, _, _, _, _, _, _, _, _, _, .slice a101 l.length l.length, _, _, _, _, _, _, _, _, _, _, _, _, _, _, _, _, _, _, _, _, _, _, _, _, _, _, _, _, _, _, _, _, _, _, _, _, _, _, _, _, _, _, _, _, _, _, _, _, _, _, _, _, _, _, _, _, _, _, _, _, _, _, _, _, _, _, _, _, _, _, _, _, _, _], []⟩) rfl rfl rfl rfl ?_
            refine EndsOps.nil ?_
            refine Ends.seq ?_
            refine Ends.seq ?_
            refine Ends.region ?_
            refine W.op (v := .slice a101 l.length l.length) (fr1 := ⟨[_, _, _, _, _, _, _, _, _, _, _, _, _, _, _, _, _, _, _, _, _, _, _, _, _, _, _, _, _, _, _, _, _, _, _, _, _, _, _, _, _, .slice a101 l.length l.length, _, _, _, _, _, _, _, _, _, _, _, _, _, _, _, _, _, _, _, _, _, _, _, _, _, _, _, _, _, _, _, _, _, _, _, _, _, _, _, _, _, _, _], []⟩) rfl rfl rfl rfl ?_
            refine W.op (v := .slice al l.length cl) (fr1 := ⟨[_, _, _, _, _, _, _, _, _, _, _, _, _, _, _, _, _, _, _, _, _, _, _, _, _, _, _, _, _, _, _, _, _, _, _, _, _, _, _, _, _, _, .slice al l.length cl, _, _, _, _, _, _, _, _, _, _, _, _, _, _, _, _, _, _, _, _, _, _, _, _, _, _, _, _, _, _, _, _, _, _, _, _, _, _, _, _, _, _], []⟩) rfl rfl rfl rfl ?_
            refine W.call (ar := [.slice a101 l.length l.length, .slice al l.length cl]) (X := .bool true) (fr1 := ⟨[_, _, _, _, _, _, _, _, _, _, _, _, _, _, _, _, _, _, _, _, _, _, _, _, _, _, _, _, _, _, _, _, _, _, _, _, _, _, _, _, _, _, _, .bool true, _, _, _, _, _, _, _, _, _, _, _, _, _, _, _, _, _, _, _, _, _, _, _, _, _, _, _, _, _, _, _, _, _, _, _, _, _, _, _, _, _], []⟩) hO98 rfl rfl rfl rfl ((c46 _ _ _ _ _ _ _ _ _ _ _ _ _ _ _ _ _ (H104.own (Own.refl s97)) (Hl.own hO98)).mono fun v _ _ g => g.trans (congrArg Value.bool (decide_eq_true rfl))) rfl ?_
            intro s105 hO106 hS107
            have hE108 := (Own.refl s97).trans hS107
            refine W.op (v := .bool false) (fr1 := ⟨[_, _, _, _, _, _, _, _, _, _, _, _, _, _, _, _, _, _, _, _, _, _, _, _, _, _, _, _, _, _, _, _, _, _, _, _, _, _, _, _, _, _, _, _, .bool false, _, _, _, _, _, _, _, _, _, _, _, _, _, _, _, _, _, _, _, _, _, _, _, _, _, _, _, _, _, _, _, _, _, _, _, _, _, _, _, _], []⟩) rfl rfl rfl rfl ?_
            refine W.op (v := .bool false) (fr1 := ⟨[_, _, _, _, _, _, _, _, _, _, _, _, _, _, _, _, _, _, _, _, _, _, _, _, _, _, _, _, _, _, _, _, _, _, _, _, _, _, _, _, _, _, _, _, _, .bool false, _, _, _, _, _, _, _, _, _, _, _, _, _, _, _, _, _, _, _, _, _, _, _, _, _, _, _, _, _, _, _, _, _, _, _, _, _, _, _], []⟩) rfl rfl rfl rfl ?_
            refine W.op (v := .slice al l.length cl) (fr1 := ⟨[_, _, _, _, _, _, _, _, _, _, _, _, _, _, _, _, _, _, _, _, _, _, _, _, _, _, _, _, _, _, _, _, _, _, _, _, _, _, _, _, _, _, _, _, _, _, .slice al l.length cl, _, _, _, _, _, _, _, _, _, _, _, _, _, _, _, _, _, _, _, _, _, _, _, _, _, _, _, _, _, _, _, _, _, _, _, _, _, _], []⟩) rfl rfl rfl rfl ?_
            refine W.call (ar := [.slice al l.length cl]) (X := .int .i64 (W (sizeF l))) (fr1 := ⟨[_, _, _, _, _, _, _, _, _, _, _, _, _, _, _, _, _, _, _, _, _, _, _, _, _, _, _, _, _, _, _, _, _, _, _, _, _, _, _, _, _, _, _, _, _, _, _, .int .i64 (W (sizeF l)), _, _, _, _, _, _, _, _, _, _, _, _, _, _, _, _, _, _, _, _, _, _, _, _, _, _, _, _, _, _, _, _, _, _, _, _, _], []⟩) hO106 rfl rfl rfl rfl (c47 _ _ _ _ _ _ _ _ _ (Hl.own hO106)) rfl ?_
            intro s109 hO110 hS111
            have hE112 := hE108.trans hS111
            refine W.op (v := .int .i64 (W (sizeF l))) (fr1 := ⟨[_, _, _, _, _, _, _, _, _, _, _, _, _, _, _, _, _, _, _, _, _, _, _, _, _, _, _, _, _, _, _, _, _, _, _, _, _, _, _, _, _, _, _, _, _, _, _, _, .int .i64 (W (sizeF l)), _, _, _, _, _, _, _, _, _, _, _, _, _, _, _, _, _, _, _, _, _, _, _, _, _, _, _, _, _, _, _, _, _, _, _, _], []⟩) rfl (by rw [show sizeF l = sizeF (l.take i) by rw [show i = l.length by omega, List.take_length]]; rfl) rfl rfl ?_
            refine W.op (v := .bool false) (fr1 := ⟨[_, _, _, _, _, _, _, _, _, _, _, _, _, _, _, _, _, _, _, _, _, _, _, _, _, _, _, _, _, _, _, _, _, _, _, _, _, _, _, _, _, _, _, _, _, _, _, _, _, .bool false, _, _, _, _, _, _, _, _, _, _, _, _, _, _, _, _, _, _, _, _, _, _, _, _, _, _, _, _, _, _, _, _, _, _, _], []⟩) rfl (p_bin (neF rfl)) rfl rfl ?_
            refine W.op (v := .bool false) (fr1 := ⟨[_, _, _, _, _, _, _, _, _, _, _, _, _, _, _, _, _, _, _, _, _, _, _, _, _, _, _, _, _, _, _, _, _, _, _, _, _, _, _, _, _, _, _, _, _, _, _, _, _, _, .bool false, _, _, _, _, _, _, _, _, _, _, _, _, _, _, _, _, _, _, _, _, _, _, _, _, _, _, _, _, _, _, _, _, _, _], []⟩) rfl rfl rfl rfl ?_
            refine W.op (v := .bool false) (fr1 := ⟨[_, _, _, _, _, _, _, _, _, _, _, _, _, _, _, _, _, _, _, _, _, _, _, _, _, _, _, _, _, _, _, _, _, _, _, _, _, _, _, _, _, _, _, _, _, _, _, _, _, _, _, .bool false, _, _, _, _, _, _, _, _, _, _, _, _, _, _, _, _, _, _, _, _, _, _, _, _, _, _, _, _, _, _, _, _, _], []⟩) rfl rfl rfl rfl ?_
            refine W.op (v := .slice al l.length cl) (fr1 := ⟨[_, _, _, _, _, _, _, _, _, _, _, _, _, _, _, _, _, _, _, _, _, _, _, _, _, _, _, _, _, _, _, _, _, _, _, _, _, _, _, _, _, _, _, _, _, _, _, _, _, _, _, _, .slice al l.length cl, _, _, _, _, _, _, _, _, _, _, _, _, _, _, _, _, _, _, _, _, _, _, _, _, _, _, _, _, _, _, _, _], []⟩) rfl rfl rfl rfl ?_
            refine W.call (ar := [.slice al l.length cl]) (X := .bool true) (fr1 := ⟨[_, _, _, _, _, _, _, _, _, _, _, _, _, _, _, _, _, _, _, _, _, _, _, _, _, _, _, _, _, _, _, _, _, _, _, _, _, _, _, _, _, _, _, _, _, _, _, _, _, _, _, _, _, .bool true, _, _, _, _, _, _, _, _, _, _, _, _, _, _, _, _, _, _, _, _, _, _, _, _, _, _, _, _, _, _, _], []⟩) hO110 rfl rfl rfl rfl ((c48 _ _ _ _ _ _ _ _ _ (Hl.own hO110)).mono fun v _ _ h => h.trans (congrArg Value.bool (decide_eq_true h12))) rfl ?_
            intro s113 hO114 hS115
            have hE116 := hE112.trans hS115
            refine W.op (v := .slice al l.length cl) (fr1 := ⟨[_, _, _, _, _, _, _, _, _, _, _, _, _, _, _, _, _, _, _, _, _, _, _, _, _, _, _, _, _, _, _, _, _, _, _, _, _, _, _, _, _, _, _, _, _, _, _, _, _, _, _, _, _, _, .slice al l.length cl, _, _, _, _, _, _, _, _, _, _, _, _, _, _, _, _, _, _, _, _, _, _, _, _, _, _, _, _, _, _], []⟩) rfl rfl rfl rfl ?_
            refine W.call (ar := [.slice al l.length cl]) (X := .bool true) (fr1 := ⟨[_, _, _, _, _, _, _, _, _, _, _, _, _, _, _, _, _, _, _, _, _, _, _, _, _, _, _, _, _, _, _, _, _, _, _, _, _, _, _, _, _, _, _, _, _, _, _, _, _, _, _, _, _, _, _, .bool true, _, _, _, _, _, _, _, _, _, _, _, _, _, _, _, _, _, _, _, _, _, _, _, _, _, _, _, _, _], []⟩) hO114 rfl rfl rfl rfl ((c49 _ _ _ _ _ _ _ _ K _ (Hl.own hO114)).mono fun v _ _ h => h.trans (congrArg Value.bool (decide_eq_true h12))) rfl ?_
            intro s117 hO118 hS119
            have hE120 := hE116.trans hS119
            refine W.op (v := .bool false) (fr1 := ⟨[_, _, _, _, _, _, _, _, _, _, _, _, _, _, _, _, _, _, _, _, _, _, _, _, _, _, _, _, _, _, _, _, _, _, _, _, _, _, _, _, _, _, _, _, _, _, _, _, _, _, _, _, _, _, _, _, .bool false, _, _, _, _, _, _, _, _, _, _, _, _, _, _, _, _, _, _, _, _, _, _, _, _, _, _, _, _], []⟩) rfl rfl rfl rfl ?_
            refine W.op (v := .bool false) (fr1 := ⟨[_, _, _, _, _, _, _, _, _, _, _, _, _, _, _, _, _, _, _, _, _, _, _, _, _, _, _, _, _, _, _, _, _, _, _, _, _, _, _, _, _, _, _, _, _, _, _, _, _, _, _, _, _, _, _, _, _, .bool false, _, _, _, _, _, _, _, _, _, _, _, _, _, _, _, _, _, _, _, _, _, _, _, _, _, _, _], []⟩) rfl rfl rfl rfl ?_
            refine EndsOps.nil ?_
            refine Ends.condF rfl ?_
            refine Ends.skip ?_
            refine Ends.seq ?_
            refine Ends.seq ?_
            refine Ends.region ?_
            refine W.op (v := .slice al l.length cl) (fr1 := ⟨[_, _, _, _, _, _, _, _, _, _, _, _, _, _, _, _, _, _, _, _, _, _, _, _, _, _, _, _, _, _, _, _, _, _, _, _, _, _, _, _, _, _, _, _, _, _, _, _, _, _, _, _, _, _, _, _, _, _, .slice al l.length cl, _, _, _, _, _, _, _, _, _, _, _, _, _, _, _, _, _, _, _, _, _, _, _, _, _, _], []⟩) rfl rfl rfl rfl ?_
            refine W.call (ar := [.slice al l.length cl]) (X := .bool true) (fr1 := ⟨[_, _, _, _, _, _, _, _, _, _, _, _, _, _, _, _, _, _, _, _, _, _, _, _, _, _, _, _, _, _, _, _, _, _, _, _, _, _, _, _, _, _, _, _, _, _, _, _, _, _, _, _, _, _, _, _, _, _, _, .bool true, _, _, _, _, _, _, _, _, _, _, _, _, _, _, _, _, _, _, _, _, _, _, _, _, _], []⟩) hO118 rfl rfl rfl rfl ((c49 _ _ _ _ _ _ _ _ K _ (Hl.own hO118)).mono fun v _ _ h => h.trans (congrArg Value.bool (decide_eq_true h12))) rfl ?_
            intro s121 hO122 hS123
            have hE124 := hE120.trans hS123
            refine W.op (v := .bool false) (fr1 := ⟨[_, _, _, _, _, _, _, _, _, _, _, _, _, _, _, _, _, _, _, _, _, _, _, _, _, _, _, _, _, _, _, _, _, _, _, _, _, _, _, _, _, _, _, _, _, _, _, _, _, _, _, _, _, _, _, _, _, _, _, _, .bool false, _, _, _, _, _, _, _, _, _, _, _, _, _, _, _, _, _, _, _, _, _, _, _, _], []⟩) rfl rfl rfl rfl ?_
            refine EndsOps.nil ?_
            refine Ends.condF rfl ?_
            refine Ends.skip ?_
            refine Ends.seq ?_
            refine Ends.seq ?_
            refine Ends.region ?_
            refine W.op (v := .slice al l.length cl) (fr1 := ⟨[_, _, _, _, _, _, _, _, _, _, _, _, _, _, _, _, _, _, _, _, _, _, _, _, _, _, _, _, _, _, _, _, _, _, _, _, _, _, _, _, _, _, _, _, _, _, _, _, _, _, _, _, _, _, _, _, _, _, _, _, _, _, _, _, _, _, _, .slice al l.length cl, _, _, _, _, _, _, _, _, _, _, _, _, _, _, _, _, _], []⟩) rfl rfl rfl rfl ?_
            refine W.op (v := .string x) (fr1 := ⟨[_, _, _, _, _, _, _, _, _, _, _, _, _, _, _, _, _, _, _, _, _, _, _, _, _, _, _, _, _, _, _, _, _, _, _, _, _, _, _, _, _, _, _, _, _, _, _, _, _, _, _, _, _, _, _, _, _, _, _, _, _, _, _, _, _, _, _, _, .string x, _, _, _, _, _, _, _, _, _, _, _, _, _, _, _, _], []⟩) rfl rfl rfl rfl ?_
            refine W.call (ar := [.slice al l.length cl, .string x]) (X := .int .i64 (placeS l x)) (fr1 := ⟨[_, _, _, _, _, _, _, _, _, _, _, _, _, _, _, _, _, _, _, _, _, _, _, _, _, _, _, _, _, _, _, _, _, _, _, _, _, _, _, _, _, _, _, _, _, _, _, _, _, _, _, _, _, _, _, _, _, _, _, _, _, _, _, _, _, _, _, _, _, .int .i64 (placeS l x), _, _, _, _, _, _, _, _, _, _, _, _, _, _, _], []⟩) hO122 rfl rfl rfl rfl (c50 _ _ _ _ _ _ _ _ x _ (Hl.own hO122)) rfl ?_
            intro s125 hO126 hS127
            have hE128 := hE124.trans hS127
            refine W.op (v := .int .i64 (placeS l x)) (fr1 := ⟨[_, _, _, _, _, _, _, _, _, _, _, .int .i64 (placeS l x), _, _, _, _, _, _, _, _, _, _, _, _, _, _, _, _, _, _, _, _, _, _, _, _, _, _, _, _, _, _, _, _, _, _, _, _, _, _, _, _, _, _, _, _, _, _, _, _, _, _, _, _, _, _, _, _, _, _, _, _, _, _, _, _, _, _, _, _, _, _, _, _, _], []⟩) rfl rfl rfl rfl ?_
            refine EndsOps.nil ?_
            refine Ends.seq ?_
            refine Ends.region ?_
            refine W.op (v := .int .i64 (placeS l x)) (fr1 := ⟨[_, _, _, _, _, _, _, _, _, _, _, _, _, _, _, _, _, _, _, _, _, _, _, _, _, _, _, _, _, _, _, _, _, _, _, _, _, _, _, _, _, _, _, _, _, _, _, _, _, _, _, _, _, _, _, _, _, _, _, _, _, _, _, _, _, _, _, _, _, _, .int .i64 (placeS l x), _, _, _, _, _, _, _, _, _, _, _, _, _, _], []⟩) rfl rfl rfl rfl ?_
            by_cases h129 : (0 : Int) ≤ placeS l x
            · skip
              refine W.op (v := .bool true) (fr1 := ⟨[_, _, _, _, _, _, _, _, _, _, _, _, _, _, _, _, _, _, _, _, _, _, _, _, _, _, _, _, _, _, _, _, _, _, _, _, _, _, _, _, _, _, _, _, _, _, _, _, _, _, _, _, _, _, _, _, _, _, _, _, _, _, _, _, _, _, _, _, _, _, _, .bool true, _, _, _, _, _, _, _, _, _, _, _, _, _], []⟩) rfl (p_bin (geT h129)) rfl rfl ?_
              refine EndsOps.nil ?_
              refine Ends.condT rfl ?_
              refine Ends.seq ?_
              refine Ends.region ?_
              refine W.op (v := .nilIface) (fr1 := ⟨[_, _, _, _, _, _, _, _, _, _, _, _, _, _, _, _, _, _, _, _, _, _, _, _, _, _, _, _, _, _, _, _, _, _, _, _, _, _, _, _, _, _, _, _, _, _, _, _, _, _, _, _, _, _, _, _, _, _, _, _, _, _, _, _, _, _, _, _, _, _, _, _, .nilIface, _, _, _, _, _, _, _, _, _, _, _, _], []⟩) rfl rfl rfl rfl ?_
              refine W.op (v := .bool true) (fr1 := ⟨[_, _, _, _, _, _, _, _, _, _, _, _, _, _, _, _, _, _, _, _, _, _, _, _, _, _, _, _, _, _, _, _, _, _, _, _, _, _, _, _, _, _, _, _, _, _, _, _, _, _, _, _, _, _, _, _, _, _, _, _, _, _, _, _, _, _, _, _, _, _, _, _, _, .bool true, _, _, _, _, _, _, _, _, _, _, _], []⟩) rfl rfl rfl rfl ?_
              refine W.op (v := .bool true) (fr1 := ⟨[_, _, _, _, _, _, _, _, _, _, _, _, _, _, _, _, _, _, _, _, _, _, _, _, _, _, _, _, _, _, _, _, _, _, _, _, _, _, _, _, _, _, _, _, _, _, _, _, _, _, _, _, _, _, _, _, _, _, _, _, _, _, _, _, _, _, _, _, _, _, _, _, _, _, .bool true, _, _, _, _, _, _, _, _, _, _], []⟩) rfl rfl rfl rfl ?_
              refine W.op (v := .int .i64 (placeS l x)) (fr1 := ⟨[_, _, _, _, _, _, _, _, _, _, _, _, _, _, _, _, _, _, _, _, _, _, _, _, _, _, _, _, _, _, _, _, _, _, _, _, _, _, _, _, _, _, _, _, _, _, _, _, _, _, _, _, _, _, _, _, _, _, _, _, _, _, _, _, _, _, _, _, _, _, _, _, _, _, _, .int .i64 (placeS l x), _, _, _, _, _, _, _, _, _], []⟩) rfl rfl rfl rfl ?_
              refine W.op (v := .int .i64 (placeS l x)) (fr1 := ⟨[_, _, _, _, _, _, _, _, _, _, _, _, _, _, _, _, _, _, _, _, _, _, _, _, _, _, _, _, _, _, _, _, _, _, _, _, _, _, _, _, _, _, _, _, _, _, _, _, _, _, _, _, _, _, _, _, _, _, _, _, _, _, _, _, _, _, _, _, _, _, _, _, _, _, _, _, .int .i64 (placeS l x), _, _, _, _, _, _, _, _], []⟩) rfl rfl rfl rfl ?_
              refine W.op (v := .bool true) (fr1 := ⟨[_, _, _, _, _, _, _, _, _, _, _, _, _, _, _, _, _, _, _, _, _, _, _, _, _, _, _, _, _, _, _, _, _, _, _, _, _, _, _, _, _, _, _, _, _, _, _, _, _, _, _, _, _, _, _, _, _, _, _, _, _, _, _, _, _, _, _, _, _, _, _, _, _, _, _, _, _, .bool true, _, _, _, _, _, _, _], []⟩) rfl (p_bin (eqT rfl)) rfl rfl ?_
              refine W.op (v := .bool true) (fr1 := ⟨[_, _, _, _, _, _, _, _, _, _, _, _, _, _, _, _, _, _, _, _, _, _, _, _, _, _, _, _, _, _, _, _, _, _, _, _, _, _, _, _, _, _, _, _, _, _, _, _, _, _, _, _, _, _, _, _, _, _, _, _, _, _, _, _, _, _, _, _, _, _, _, _, _, _, _, _, _, _, .bool true, _, _, _, _, _, _], []⟩) rfl rfl rfl rfl ?_
              refine W.op (v := .bool true) (fr1 := ⟨[_, _, _, _, .bool true, _, _, _, _, _, _, _, _, _, _, _, _, _, _, _, _, _, _, _, _, _, _, _, _, _, _, _, _, _, _, _, _, _, _, _, _, _, _, _, _, _, _, _, _, _, _, _, _, _, _, _, _, _, _, _, _, _, _, _, _, _, _, _, _, _, _, _, _, _, _, _, _, _, _, _, _, _, _, _, _], []⟩) rfl rfl rfl rfl ?_
              refine EndsOps.nil ?_
              refine Ends.ret ?_
              exact ⟨rfl, rfl, hO126, by
                show Value.bool true = Value.bool true
                rfl⟩
            · skip
              omega
      · skip
        refine W.call (ar := [.slice al l.length cl, .string x]) (X := .tuple ⟨[.int .i64 0, .iface 37 (.int .i64 2)]⟩) (fr1 := ⟨[_, _, _, _, _, _, _, _, _, _, _, _, _, _, _, _, _, _, _, _, _, _, _, _, .tuple ⟨[.int .i64 0, .iface 37 (.int .i64 2)]⟩, _, _, _, _, _, _, _, _, _, _, _, _, _, _, _, _, _, _, _, _, _, _, _, _, _, _, _, _, _, _, _, _, _, _, _, _, _, _, _, _, _, _, _, _, _, _, _, _, _, _, _, _, _, _, _, _, _, _, _, _], []⟩) hO9 rfl rfl rfl rfl (c44F _ _ _ _ _ _ _ _ x h12 _ (Hl.own hO9)) rfl ?_
        intro s130 hO131 hS132
        refine W.op (v := .tuple ⟨[.int .i64 0, .iface 37 (.int .i64 2)]⟩) (fr1 := ⟨[_, _, _, _, _, _, _, _, _, _, _, _, _, _, _, _, _, _, _, _, _, .tuple ⟨[.int .i64 0, .iface 37 (.int .i64 2)]⟩, _, _, _, _, _, _, _, _, _, _, _, _, _, _, _, _, _, _, _, _, _, _, _, _, _, _, _, _, _, _, _, _, _, _, _, _, _, _, _, _, _, _, _, _, _, _, _, _, _, _, _, _, _, _, _, _, _, _, _, _, _, _, _], []⟩) rfl rfl rfl rfl ?_
        refine W.op (v := .int .i64 0) (fr1 := ⟨[_, _, _, _, _, _, _, _, _, _, _, _, _, _, _, _, _, _, _, _, _, _, _, _, _, .int .i64 0, _, _, _, _, _, _, _, _, _, _, _, _, _, _, _, _, _, _, _, _, _, _, _, _, _, _, _, _, _, _, _, _, _, _, _, _, _, _, _, _, _, _, _, _, _, _, _, _, _, _, _, _, _, _, _, _, _, _, _], []⟩) rfl rfl rfl rfl ?_
        refine W.op (v := .iface 37 (.int .i64 2)) (fr1 := ⟨[_, _, _, _, _, _, _, _, _, _, _, _, _, _, _, _, _, _, _, _, _, _, _, _, _, _, .iface 37 (.int .i64 2), _, _, _, _, _, _, _, _, _, _, _, _, _, _, _, _, _, _, _, _, _, _, _, _, _, _, _, _, _, _, _, _, _, _, _, _, _, _, _, _, _, _, _, _, _, _, _, _, _, _, _, _, _, _, _, _, _, _], []⟩) rfl rfl rfl rfl ?_
        refine W.op (v := .int .i64 0) (fr1 := ⟨[_, _, _, _, _, .int .i64 0, _, _, _, _, _, _, _, _, _, _, _, _, _, _, _, _, _, _, _, _, _, _, _, _, _, _, _, _, _, _, _, _, _, _, _, _, _, _, _, _, _, _, _, _, _, _, _, _, _, _, _, _, _, _, _, _, _, _, _, _, _, _, _, _, _, _, _, _, _, _, _, _, _, _, _, _, _, _, _], []⟩) rfl rfl rfl rfl ?_
        refine W.op (v := .iface 37 (.int .i64 2)) (fr1 := ⟨[_, _, _, _, _, _, .iface 37 (.int .i64 2), _, _, _, _, _, _, _, _, _, _, _, _, _, _, _, _, _, _, _, _, _, _, _, _, _, _, _, _, _, _, _, _, _, _, _, _, _, _, _, _, _, _, _, _, _, _, _, _, _, _, _, _, _, _, _, _, _, _, _, _, _, _, _, _, _, _, _, _, _, _, _, _, _, _, _, _, _, _], []⟩) rfl rfl rfl rfl ?_
        refine EndsOps.nil ?_
        refine Ends.seq ?_
        refine Ends.region ?_
        refine W.op (v := .int .i64 0) (fr1 := ⟨[_, _, _, _, _, _, _, .int .i64 0, _, _, _, _, _, _, _, _, _, _, _, _, _, _, _, _, _, _, _, _, _, _, _, _, _, _, _, _, _, _, _, _, _, _, _, _, _, _, _, _, _, _, _, _, _, _, _, _, _, _, _, _, _, _, _, _, _, _, _, _, _, _, _, _, _, _, _, _, _, _, _, _, _, _, _, _, _], []⟩) rfl rfl rfl rfl ?_
        refine EndsOps.nil ?_
        refine Ends.seq ?_
        refine Ends.seq ?_
        refine Ends.region ?_
        refine W.op (v := .slice al l.length cl) (fr1 := ⟨[_, _, _, _, _, _, _, _, _, _, _, _, _, _, _, _, _, _, _, _, _, _, _, _, _, _, _, .slice al l.length cl, _, _, _, _, _, _, _, _, _, _, _, _, _, _, _, _, _, _, _, _, _, _, _, _, _, _, _, _, _, _, _, _, _, _, _, _, _, _, _, _, _, _, _, _, _, _, _, _, _, _, _, _, _, _, _, _, _], []⟩) rfl rfl rfl rfl ?_
        refine W.op (v := .int .i64 ((l.length : Nat) : Int)) (fr1 := ⟨[_, _, _, _, _, _, _, _, _, _, _, _, _, _, _, _, _, _, _, _, _, _, _, _, _, _, _, _, .int .i64 ((l.length : Nat) : Int), _, _, _, _, _, _, _, _, _, _, _, _, _, _, _, _, _, _, _, _, _, _, _, _, _, _, _, _, _, _, _, _, _, _, _, _, _, _, _, _, _, _, _, _, _, _, _, _, _, _, _, _, _, _, _, _], []⟩) rfl rfl rfl rfl ?_
        refine W.op (v := .int .i64 0) (fr1 := ⟨[_, _, _, _, _, _, _, _, _, _, _, _, _, _, _, _, _, _, _, _, _, _, _, _, _, _, _, _, _, .int .i64 0, _, _, _, _, _, _, _, _, _, _, _, _, _, _, _, _, _, _, _, _, _, _, _, _, _, _, _, _, _, _, _, _, _, _, _, _, _, _, _, _, _, _, _, _, _, _, _, _, _, _, _, _, _, _, _], []⟩) rfl rfl rfl rfl ?_
        refine EndsOps.nil ?_
        refine W.block ?_
        refine Ends.loopInv (fun d fr s1 => ∃ (i : Nat) (j9 j30 j31 j32 j33 j34 j35 j36 j37 j38 : Value), fr = ⟨[.slice al l.length cl, .string x, undef, undef, .bool false, .int .i64 0, .iface 37 (.int .i64 2), .int .i64 (W (sizeF (l.take i))), undef, j9, undef, undef, .bool true, .bool false, .slice al l.length cl, .bool false, .bool false, .string x, .int .i64 (((B x).length : Nat) : Int), .bool false, .bool false, .tuple ⟨[.int .i64 0, .iface 37 (.int .i64 2)]⟩, .slice al l.length cl, .string x, .tuple ⟨[.int .i64 0, .iface 37 (.int .i64 2)]⟩, .int .i64 0, .iface 37 (.int .i64 2), .slice al l.length cl, .int .i64 ((l.length : Nat) : Int), .int .i64 ((i : Nat) : Int), j30, j31, j32, j33, j34, j35, j36, j37, j38, undef, undef, undef, undef, undef, undef, undef, undef, undef, undef, undef, undef, undef, undef, undef, undef, undef, undef, undef, undef, undef, undef, undef, undef, undef, undef, undef, undef, undef, undef, undef, undef, undef, undef, undef, undef, undef, undef, undef, undef, undef, undef, undef, undef, undef, undef], []⟩ ∧ Own s s1 ∧ d = l.length - i ∧ (i ≤ l.length)) ?_ _ _ _ ⟨0, _, _, _, _, _, _, _, _, _, _, rfl, hO131, rfl, Nat.zero_le _⟩
        rintro d _ s133 ⟨i, j9, j30, j31, j32, j33, j34, j35, j36, j37, j38, rfl, hO134, hd135, hi⟩
        refine Ends.seq ?_
        refine Ends.region ?_
        by_cases h136 : ((i : Nat) : Int) < ((l.length : Nat) : Int)
        · skip
          refine W.op (v := .bool true) (fr1 := ⟨[_, _, _, _, _, _, _, _, _, _, _, _, _, _, _, _, _, _, _, _, _, _, _, _, _, _, _, _, _, _, .bool true, _, _, _, _, _, _, _, _, _, _, _, _, _, _, _, _, _, _, _, _, _, _, _, _, _, _, _, _, _, _, _, _, _, _, _, _, _, _, _, _, _, _, _, _, _, _, _, _, _, _, _, _, _, _], []⟩) rfl (p_bin (ltT h136)) rfl rfl ?_
          refine EndsOps.nil ?_
          refine Ends.seq ?_
          refine Ends.condT rfl ?_
          refine Ends.skip ?_
          refine Ends.seq ?_
          refine W.block ?_
          refine Ends.seq ?_
          refine Ends.region ?_
          obtain ⟨e137, he138⟩ := ex_at (l := l) (i := i) (by omega)
          refine W.op (v := .pointer (some ⟨Nl, ol + i * 2, none⟩)) (fr1 := ⟨[_, _, _, _, _, _, _, _, _, _, _, _, _, _, _, _, _, _, _, _, _, _, _, _, _, _, _, _, _, _, _, .pointer (some ⟨Nl, ol + i * 2, none⟩), _, _, _, _, _, _, _, _, _, _, _, _, _, _, _, _, _, _, _, _, _, _, _, _, _, _, _, _, _, _, _, _, _, _, _, _, _, _, _, _, _, _, _, _, _, _, _, _, _, _, _, _, _], []⟩) rfl (p_ix (Sl.ix Hl rfl rfl he138 _)) rfl rfl ?_
          refine W.op (v := .agg ⟨[.string e137.nm, .string e137.tx]⟩) (fr1 := ⟨[_, _, _, _, _, _, _, _, _, _, _, _, _, _, _, _, _, _, _, _, _, _, _, _, _, _, _, _, _, _, _, _, .agg ⟨[.string e137.nm, .string e137.tx]⟩, _, _, _, _, _, _, _, _, _, _, _, _, _, _, _, _, _, _, _, _, _, _, _, _, _, _, _, _, _, _, _, _, _, _, _, _, _, _, _, _, _, _, _, _, _, _, _, _, _, _, _, _], []⟩) rfl (p_loadA (Sl.row' (Hl.own hO134) he138) rfl rfl rfl rfl ((Hl.own hO134).get _ _ he138)) rfl rfl ?_
          obtain ⟨N139, hN140⟩ : ∃ N, N = s133.next := ⟨_, rfl⟩
          refine W.new (N := N139) (vs := [.string ByteArray.empty, .string ByteArray.empty]) (fr1 := ⟨[_, _, _, _, _, _, _, _, _, .pointer (some ⟨N139, 0, none⟩), _, _, _, _, _, _, _, _, _, _, _, _, _, _, _, _, _, _, _, _, _, _, _, _, _, _, _, _, _, _, _, _, _, _, _, _, _, _, _, _, _, _, _, _, _, _, _, _, _, _, _, _, _, _, _, _, _, _, _, _, _, _, _, _, _, _, _, _, _, _, _, _, _, _, _], []⟩) hO134 hN140 rfl (p_alloc zero68 rfl) rfl rfl ?_
          intro s141 hO142 hS143 r144 hB145
          refine W.store2 (cs := [.string e137.nm, .string e137.tx]) (vs' := [.string e137.nm, .string e137.tx]) (fr1 := ⟨[_, _, _, _, _, _, _, _, _, _, _, _, _, _, _, _, _, _, _, _, _, _, _, _, _, _, _, _, _, _, _, _, _, _, _, _, _, _, _, _, _, _, _, _, _, _, _, _, _, _, _, _, _, _, _, _, _, _, _, _, _, _, _, _, _, _, _, _, _, _, _, _, _, _, _, _, _, _, _, _, _, _, _, _, _], []⟩) hO142 r144 hB145 rfl rfl rfl rfl (by kernel_rfl) (by simp) (by simp [END, oneCell]) rfl rfl ?_
          intro s146 hO147 hn148 hu149 r150 hX151
          refine EndsOps.nil ?_
          refine Ends.region ?_
          refine W.op (v := .int .i64 (W (sizeF (l.take i)))) (fr1 := ⟨[_, _, _, _, _, _, _, _, _, _, _, _, _, _, _, _, _, _, _, _, _, _, _, _, _, _, _, _, _, _, _, _, _, .int .i64 (W (sizeF (l.take i))), _, _, _, _, _, _, _, _, _, _, _, _, _, _, _, _, _, _, _, _, _, _, _, _, _, _, _, _, _, _, _, _, _, _, _, _, _, _, _, _, _, _, _, _, _, _, _, _, _, _, _], []⟩) rfl rfl rfl rfl ?_
          refine W.op (v := .pointer (some ⟨N139, 1, none⟩)) (fr1 := ⟨[_, _, _, _, _, _, _, _, _, _, _, _, _, _, _, _, _, _, _, _, _, _, _, _, _, _, _, _, _, _, _, _, _, _, .pointer (some ⟨N139, 1, none⟩), _, _, _, _, _, _, _, _, _, _, _, _, _, _, _, _, _, _, _, _, _, _, _, _, _, _, _, _, _, _, _, _, _, _, _, _, _, _, _, _, _, _, _, _, _, _, _, _, _, _], []⟩) rfl rfl rfl rfl ?_
          refine W.op (v := .string e137.tx) (fr1 := ⟨[_, _, _, _, _, _, _, _, _, _, _, _, _, _, _, _, _, _, _, _, _, _, _, _, _, _, _, _, _, _, _, _, _, _, _, .string e137.tx, _, _, _, _, _, _, _, _, _, _, _, _, _, _, _, _, _, _, _, _, _, _, _, _, _, _, _, _, _, _, _, _, _, _, _, _, _, _, _, _, _, _, _, _, _, _, _, _, _], []⟩) rfl (p_load1 r150 rfl rfl rfl rfl) rfl rfl ?_
          refine W.op (v := .int .i64 (((B e137.tx).length : Nat) : Int)) (fr1 := ⟨[_, _, _, _, _, _, _, _, _, _, _, _, _, _, _, _, _, _, _, _, _, _, _, _, _, _, _, _, _, _, _, _, _, _, _, _, .int .i64 (((B e137.tx).length : Nat) : Int), _, _, _, _, _, _, _, _, _, _, _, _, _, _, _, _, _, _, _, _, _, _, _, _, _, _, _, _, _, _, _, _, _, _, _, _, _, _, _, _, _, _, _, _, _, _, _, _], []⟩) rfl rfl rfl rfl ?_
          refine W.op (v := .int .i64 (W (sizeF (l.take (i + 1))))) (fr1 := ⟨[_, _, _, _, _, _, _, _, _, _, _, _, _, _, _, _, _, _, _, _, _, _, _, _, _, _, _, _, _, _, _, _, _, _, _, _, _, .int .i64 (W (sizeF (l.take (i + 1)))), _, _, _, _, _, _, _, _, _, _, _, _, _, _, _, _, _, _, _, _, _, _, _, _, _, _, _, _, _, _, _, _, _, _, _, _, _, _, _, _, _, _, _, _, _, _, _], []⟩) rfl (p_bin (addW.trans (congrArg (fun z => some (Value.int IntKind.i64 z)) (sizeF_step he138)))) rfl rfl ?_
          refine W.op (v := .int .i64 (W (sizeF (l.take (i + 1))))) (fr1 := ⟨[_, _, _, _, _, _, _, .int .i64 (W (sizeF (l.take (i + 1)))), _, _, _, _, _, _, _, _, _, _, _, _, _, _, _, _, _, _, _, _, _, _, _, _, _, _, _, _, _, _, _, _, _, _, _, _, _, _, _, _, _, _, _, _, _, _, _, _, _, _, _, _, _, _, _, _, _, _, _, _, _, _, _, _, _, _, _, _, _, _, _, _, _, _, _, _, _], []⟩) rfl rfl rfl rfl ?_
          refine EndsOps.nil ?_
          refine Ends.region ?_
          refine W.op (v := .int .i64 ((i + 1 : Nat) : Int)) (fr1 := ⟨[_, _, _, _, _, _, _, _, _, _, _, _, _, _, _, _, _, _, _, _, _, _, _, _, _, _, _, _, _, _, _, _, _, _, _, _, _, _, .int .i64 ((i + 1 : Nat) : Int), _, _, _, _, _, _, _, _, _, _, _, _, _, _, _, _, _, _, _, _, _, _, _, _, _, _, _, _, _, _, _, _, _, _, _, _, _, _, _, _, _, _, _, _, _, _], []⟩) rfl (p_bin (addI (by omega) (by omega) (by omega))) rfl rfl ?_
          refine W.op (v := .int .i64 ((i + 1 : Nat) : Int)) (fr1 := ⟨[_, _, _, _, _, _, _, _, _, _, _, _, _, _, _, _, _, _, _, _, _, _, _, _, _, _, _, _, _, .int .i64 ((i + 1 : Nat) : Int), _, _, _, _, _, _, _, _, _, _, _, _, _, _, _, _, _, _, _, _, _, _, _, _, _, _, _, _, _, _, _, _, _, _, _, _, _, _, _, _, _, _, _, _, _, _, _, _, _, _, _, _, _, _, _], []⟩) rfl rfl rfl rfl ?_
          refine EndsOps.nil ?_
          exact ⟨_, (by omega), i + 1, _, _, _, _, _, _, _, _, _, _, rfl, hO147, rfl, by omega⟩
        · skip
          refine W.op (v := .bool false) (fr1 := ⟨[_, _, _, _, _, _, _, _, _, _, _, _, _, _, _, _, _, _, _, _, _, _, _, _, _, _, _, _, _, _, .bool false, _, _, _, _, _, _, _, _, _, _, _, _, _, _, _, _, _, _, _, _, _, _, _, _, _, _, _, _, _, _, _, _, _, _, _, _, _, _, _, _, _, _, _, _, _, _, _, _, _, _, _, _, _, _], []⟩) rfl (p_bin (ltF h136)) rfl rfl ?_
          refine EndsOps.nil ?_
          refine Ends.seq ?_
          refine Ends.condF rfl ?_
          refine Ends.exit ?_
          refine W.outT rfl ?_
          refine Ends.seq ?_
          refine Ends.region ?_
          refine W.op (v := .slice al l.length cl) (fr1 := ⟨[_, _, _, _, _, _, _, _, _, _, _, _, _, _, _, _, _, _, _, _, _, _, _, _, _, _, _, _, _, _, _, _, _, _, _, _, _, _, _, .slice al l.length cl, _, _, _, _, _, _, _, _, _, _, _, _, _, _, _, _, _, _, _, _, _, _, _, _, _, _, _, _, _, _, _, _, _, _, _, _, _, _, _, _, _, _, _, _, _], []⟩) rfl rfl rfl rfl ?_
          refine W.callE (ar := [.slice al l.length cl]) (fF := fun v152 => ⟨[_, _, _, _, _, _, _, _, _, _, _, _, _, _, _, _, _, _, _, _, _, _, _, _, _, _, _, _, _, _, _, _, _, _, _, _, _, _, _, _, v152, _, _, _, _, _, _, _, _, _, _, _, _, _, _, _, _, _, _, _, _, _, _, _, _, _, _, _, _, _, _, _, _, _, _, _, _, _, _, _, _, _, _, _, _], []⟩) hO134 rfl rfl rfl rfl (c45 _ _ _ _ _ _ _ _ hB C _ (Hl.own hO134)) (fun _ => rfl) ?_
          intro v152 s153 hR156 hO154 hS155
          obtain ⟨a157, N158, v159, rfl, H160⟩ := hR156
          have sm_a157 := H160.small
          refine W.op (v := .slice a157 l.length l.length) (fr1 := ⟨[_, _, _, _, _, _, _, _, _, _, .slice a157 l.length l.length, _, _, _, _, _, _, _, _, _, _, _, _, _, _, _, _, _, _, _, _, _, _, _, _, _, _, _, _, _, _, _, _, _, _, _, _, _, _, _, _, _, _, _, _, _, _, _, _, _, _, _, _, _, _, _, _, _, _, _, _, _, _, _, _, _, _, _, _, _, _, _, _, _, _], []⟩) rfl rfl rfl rfl ?_
          refine EndsOps.nil ?_
          refine Ends.seq ?_
          refine Ends.seq ?_
          refine Ends.region ?_
          refine W.op (v := .slice a157 l.length l.length) (fr1 := ⟨[_, _, _, _, _, _, _, _, _, _, _, _, _, _, _, _, _, _, _, _, _, _, _, _, _, _, _, _, _, _, _, _, _, _, _, _, _, _, _, _, _, .slice a157 l.length l.length, _, _, _, _, _, _, _, _, _, _, _, _, _, _, _, _, _, _, _, _, _, _, _, _, _, _, _, _, _, _, _, _, _, _, _, _, _, _, _, _, _, _, _], []⟩) rfl rfl rfl rfl ?_
          refine W.op (v := .slice al l.length cl) (fr1 := ⟨[_, _, _, _, _, _, _, _, _, _, _, _, _, _, _, _, _, _, _, _, _, _, _, _, _, _, _, _, _, _, _, _, _, _, _, _, _, _, _, _, _, _, .slice al l.length cl, _, _, _, _, _, _, _, _, _, _, _, _, _, _, _, _, _, _, _, _, _, _, _, _, _, _, _, _, _, _, _, _, _, _, _, _, _, _, _, _, _, _], []⟩) rfl rfl rfl rfl ?_
          refine W.call (ar := [.slice a157 l.length l.length, .slice al l.length cl]) (X := .bool true) (fr1 := ⟨[_, _, _, _, _, _, _, _, _, _, _, _, _, _, _, _, _, _, _, _, _, _, _, _, _, _, _, _, _, _, _, _, _, _, _, _, _, _, _, _, _, _, _, .bool true, _, _, _, _, _, _, _, _, _, _, _, _, _, _, _, _, _, _, _, _, _, _, _, _, _, _, _, _, _, _, _, _, _, _, _, _, _, _, _, _, _], []⟩) hO154 rfl rfl rfl rfl ((c46 _ _ _ _ _ _ _ _ _ _ _ _ _ _ _ _ _ (H160.own (Own.refl s153)) (Hl.own hO154)).mono fun v _ _ g => g.trans (congrArg Value.bool (decide_eq_true rfl))) rfl ?_
          intro s161 hO162 hS163
          have hE164 := (Own.refl s153).trans hS163
          refine W.op (v := .bool false) (fr1 := ⟨[_, _, _, _, _, _, _, _, _, _, _, _, _, _, _, _, _, _, _, _, _, _, _, _, _, _, _, _, _, _, _, _, _, _, _, _, _, _, _, _, _, _, _, _, .bool false, _, _, _, _, _, _, _, _, _, _, _, _, _, _, _, _, _, _, _, _, _, _, _, _, _, _, _, _, _, _, _, _, _, _, _, _, _, _, _, _], []⟩) rfl rfl rfl rfl ?_
          refine W.op (v := .bool false) (fr1 := ⟨[_, _, _, _, _, _, _, _, _, _, _, _, _, _, _, _, _, _, _, _, _, _, _, _, _, _, _, _, _, _, _, _, _, _, _, _, _, _, _, _, _, _, _, _, _, .bool false, _, _, _, _, _, _, _, _, _, _, _, _, _, _, _, _, _, _, _, _, _, _, _, _, _, _, _, _, _, _, _, _, _, _, _, _, _, _, _], []⟩) rfl rfl rfl rfl ?_
          refine W.op (v := .slice al l.length cl) (fr1 := ⟨[_, _, _, _, _, _, _, _, _, _, _, _, _, _, _, _, _, _, _, _, _, _, _, _, _, _, _, _, _, _, _, _, _, _, _, _, _, _, _, _, _, _, _, _, _, _, .slice al l.length cl, _, _, _, _, _, _, _, _, _, _, _, _, _, _, _, _, _, _, _, _, _, _, _, _, _, _, _, _, _, _, _, _, _, _, _, _, _, _], []⟩) rfl rfl rfl rfl ?_
          refine W.call (ar := [.slice al l.length cl]) (X := .int .i64 (W (sizeF l))) (fr1 := ⟨[_, _, _, _, _, _, _, _, _, _, _, _, _, _, _, _, _, _, _, _, _, _, _, _, _, _, _, _, _, _, _, _, _, _, _, _, _, _, _, _, _, _, _, _, _, _, _, .int .i64 (W (sizeF l)), _, _, _, _, _, _, _, _, _, _, _, _, _, _, _, _, _, _, _, _, _, _, _, _, _, _, _, _, _, _, _, _, _, _, _, _, _], []⟩) hO162 rfl rfl rfl rfl (c47 _ _ _ _ _ _ _ _ _ (Hl.own hO162)) rfl ?_
          intro s165 hO166 hS167
          have hE168 := hE164.trans hS167
          refine W.op (v := .int .i64 (W (sizeF l))) (fr1 := ⟨[_, _, _, _, _, _, _, _, _, _, _, _, _, _, _, _, _, _, _, _, _, _, _, _, _, _, _, _, _, _, _, _, _, _, _, _, _, _, _, _, _, _, _, _, _, _, _, _, .int .i64 (W (sizeF l)), _, _, _, _, _, _, _, _, _, _, _, _, _, _, _, _, _, _, _, _, _, _, _, _, _, _, _, _, _, _, _, _, _, _, _, _], []⟩) rfl (by rw [show sizeF l = sizeF (l.take i) by rw [show i = l.length by omega, List.take_length]]; rfl) rfl rfl ?_
          refine W.op (v := .bool false) (fr1 := ⟨[_, _, _, _, _, _, _, _, _, _, _, _, _, _, _, _, _, _, _, _, _, _, _, _, _, _, _, _, _, _, _, _, _, _, _, _, _, _, _, _, _, _, _, _, _, _, _, _, _, .bool false, _, _, _, _, _, _, _, _, _, _, _, _, _, _, _, _, _, _, _, _, _, _, _, _, _, _, _, _, _, _, _, _, _, _, _], []⟩) rfl (p_bin (neF rfl)) rfl rfl ?_
          refine W.op (v := .bool false) (fr1 := ⟨[_, _, _, _, _, _, _, _, _, _, _, _, _, _, _, _, _, _, _, _, _, _, _, _, _, _, _, _, _, _, _, _, _, _, _, _, _, _, _, _, _, _, _, _, _, _, _, _, _, _, .bool false, _, _, _, _, _, _, _, _, _, _, _, _, _, _, _, _, _, _, _, _, _, _, _, _, _, _, _, _, _, _, _, _, _, _], []⟩) rfl rfl rfl rfl ?_
          refine W.op (v := .bool false) (fr1 := ⟨[_, _, _, _, _, _, _, _, _, _, _, _, _, _, _, _, _, _, _, _, _, _, _, _, _, _, _, _, _, _, _, _, _, _, _, _, _, _, _, _, _, _, _, _, _, _, _, _, _, _, _, .bool false, _, _, _, _, _, _, _, _, _, _, _, _, _, _, _, _, _, _, _, _, _, _, _, _, _, _, _, _, _, _, _, _, _], []⟩) rfl rfl rfl rfl ?_
          refine W.op (v := .slice al l.length cl) (fr1 := ⟨[_, _, _, _, _, _, _, _, _, _, _, _, _, _, _, _, _, _, _, _, _, _, _, _, _, _, _, _, _, _, _, _, _, _, _, _, _, _, _, _, _, _, _, _, _, _, _, _, _, _, _, _, .slice al l.length cl, _, _, _, _, _, _, _, _, _, _, _, _, _, _, _, _, _, _, _, _, _, _, _, _, _, _, _, _, _, _, _, _], []⟩) rfl rfl rfl rfl ?_
          refine W.call (ar := [.slice al l.length cl]) (X := .bool false) (fr1 := ⟨[_, _, _, _, _, _, _, _, _, _, _, _, _, _, _, _, _, _, _, _, _, _, _, _, _, _, _, _, _, _, _, _, _, _, _, _, _, _, _, _, _, _, _, _, _, _, _, _, _, _, _, _, _, .bool false, _, _, _, _, _, _, _, _, _, _, _, _, _, _, _, _, _, _, _, _, _, _, _, _, _, _, _, _, _, _, _], []⟩) hO166 rfl rfl rfl rfl ((c48 _ _ _ _ _ _ _ _ _ (Hl.own hO166)).mono fun v _ _ h => h.trans (congrArg Value.bool (decide_eq_false h12))) rfl ?_
          intro s169 hO170 hS171
          have hE172 := hE168.trans hS171
          refine W.op (v := .slice al l.length cl) (fr1 := ⟨[_, _, _, _, _, _, _, _, _, _, _, _, _, _, _, _, _, _, _, _, _, _, _, _, _, _, _, _, _, _, _, _, _, _, _, _, _, _, _, _, _, _, _, _, _, _, _, _, _, _, _, _, _, _, .slice al l.length cl, _, _, _, _, _, _, _, _, _, _, _, _, _, _, _, _, _, _, _, _, _, _, _, _, _, _, _, _, _, _], []⟩) rfl rfl rfl rfl ?_
          refine W.call (ar := [.slice al l.length cl]) (X := .bool false) (fr1 := ⟨[_, _, _, _, _, _, _, _, _, _, _, _, _, _, _, _, _, _, _, _, _, _, _, _, _, _, _, _, _, _, _, _, _, _, _, _, _, _, _, _, _, _, _, _, _, _, _, _, _, _, _, _, _, _, _, .bool false, _, _, _, _, _, _, _, _, _, _, _, _, _, _, _, _, _, _, _, _, _, _, _, _, _, _, _, _, _], []⟩) hO170 rfl rfl rfl rfl ((c49 _ _ _ _ _ _ _ _ K _ (Hl.own hO170)).mono fun v _ _ h => h.trans (congrArg Value.bool (decide_eq_false h12))) rfl ?_
          intro s173 hO174 hS175
          have hE176 := hE172.trans hS175
          refine W.op (v := .bool false) (fr1 := ⟨[_, _, _, _, _, _, _, _, _, _, _, _, _, _, _, _, _, _, _, _, _, _, _, _, _, _, _, _, _, _, _, _, _, _, _, _, _, _, _, _, _, _, _, _, _, _, _, _, _, _, _, _, _, _, _, _, .bool false, _, _, _, _, _, _, _, _, _, _, _, _, _, _, _, _, _, _, _, _, _, _, _, _, _, _, _, _], []⟩) rfl rfl rfl rfl ?_
          refine W.op (v := .bool false) (fr1 := ⟨[_, _, _, _, _, _, _, _, _, _, _, _, _, _, _, _, _, _, _, _, _, _, _, _, _, _, _, _, _, _, _, _, _, _, _, _, _, _, _, _, _, _, _, _, _, _, _, _, _, _, _, _, _, _, _, _, _, .bool false, _, _, _, _, _, _, _, _, _, _, _, _, _, _, _, _, _, _, _, _, _, _, _, _, _, _, _], []⟩) rfl rfl rfl rfl ?_
          refine EndsOps.nil ?_
          refine Ends.condF rfl ?_
          refine Ends.skip ?_
          refine Ends.seq ?_
          refine Ends.seq ?_
          refine Ends.region ?_
          refine W.op (v := .slice al l.length cl) (fr1 := ⟨[_, _, _, _, _, _, _, _, _, _, _, _, _, _, _, _, _, _, _, _, _, _, _, _, _, _, _, _, _, _, _, _, _, _, _, _, _, _, _, _, _, _, _, _, _, _, _, _, _, _, _, _, _, _, _, _, _, _, .slice al l.length cl, _, _, _, _, _, _, _, _, _, _, _, _, _, _, _, _, _, _, _, _, _, _, _, _, _, _], []⟩) rfl rfl rfl rfl ?_
          refine W.call (ar := [.slice al l.length cl]) (X := .bool false) (fr1 := ⟨[_, _, _, _, _, _, _, _, _, _, _, _, _, _, _, _, _, _, _, _, _, _, _, _, _, _, _, _, _, _, _, _, _, _, _, _, _, _, _, _, _, _, _, _, _, _, _, _, _, _, _, _, _, _, _, _, _, _, _, .bool false, _, _, _, _, _, _, _, _, _, _, _, _, _, _, _, _, _, _, _, _, _, _, _, _, _], []⟩) hO174 rfl rfl rfl rfl ((c49 _ _ _ _ _ _ _ _ K _ (Hl.own hO174)).mono fun v _ _ h => h.trans (congrArg Value.bool (decide_eq_false h12))) rfl ?_
          intro s177 hO178 hS179
          have hE180 := hE176.trans hS179
          refine W.op (v := .bool true) (fr1 := ⟨[_, _, _, _, _, _, _, _, _, _, _, _, _, _, _, _, _, _, _, _, _, _, _, _, _, _, _, _, _, _, _, _, _, _, _, _, _, _, _, _, _, _, _, _, _, _, _, _, _, _, _, _, _, _, _, _, _, _, _, _, .bool true, _, _, _, _, _, _, _, _, _, _, _, _, _, _, _, _, _, _, _, _, _, _, _, _], []⟩) rfl rfl rfl rfl ?_
          refine EndsOps.nil ?_
          refine Ends.condT rfl ?_
          refine Ends.seq ?_
          refine Ends.region ?_
          refine W.op (v := .iface 37 (.int .i64 2)) (fr1 := ⟨[_, _, _, _, _, _, _, _, _, _, _, _, _, _, _, _, _, _, _, _, _, _, _, _, _, _, _, _, _, _, _, _, _, _, _, _, _, _, _, _, _, _, _, _, _, _, _, _, _, _, _, _, _, _, _, _, _, _, _, _, _, .iface 37 (.int .i64 2), _, _, _, _, _, _, _, _, _, _, _, _, _, _, _, _, _, _, _, _, _, _, _], []⟩) rfl rfl rfl rfl ?_
          refine W.call (ar := [.iface 37 (.int .i64 2), .int .i64 2]) (X := .bool true) (fr1 := ⟨[_, _, _, _, _, _, _, _, _, _, _, _, _, _, _, _, _, _, _, _, _, _, _, _, _, _, _, _, _, _, _, _, _, _, _, _, _, _, _, _, _, _, _, _, _, _, _, _, _, _, _, _, _, _, _, _, _, _, _, _, _, _, .bool true, _, _, _, _, _, _, _, _, _, _, _, _, _, _, _, _, _, _, _, _, _, _], []⟩) hO178 rfl rfl rfl rfl (c24 2 2 (by decide) _) rfl ?_
          intro s181 hO182 hS183
          have hE184 := hE180.trans hS183
          refine W.op (v := .bool true) (fr1 := ⟨[_, _, _, _, _, _, _, _, _, _, _, _, _, _, _, _, _, _, _, _, _, _, _, _, _, _, _, _, _, _, _, _, _, _, _, _, _, _, _, _, _, _, _, _, _, _, _, _, _, _, _, _, _, _, _, _, _, _, _, _, _, _, _, .bool true, _, _, _, _, _, _, _, _, _, _, _, _, _, _, _, _, _, _, _, _, _], []⟩) rfl rfl rfl rfl ?_
          refine W.op (v := .int .i64 0) (fr1 := ⟨[_, _, _, _, _, _, _, _, _, _, _, _, _, _, _, _, _, _, _, _, _, _, _, _, _, _, _, _, _, _, _, _, _, _, _, _, _, _, _, _, _, _, _, _, _, _, _, _, _, _, _, _, _, _, _, _, _, _, _, _, _, _, _, _, .int .i64 0, _, _, _, _, _, _, _, _, _, _, _, _, _, _, _, _, _, _, _, _], []⟩) rfl rfl rfl rfl ?_
          refine W.op (v := .bool true) (fr1 := ⟨[_, _, _, _, _, _, _, _, _, _, _, _, _, _, _, _, _, _, _, _, _, _, _, _, _, _, _, _, _, _, _, _, _, _, _, _, _, _, _, _, _, _, _, _, _, _, _, _, _, _, _, _, _, _, _, _, _, _, _, _, _, _, _, _, _, .bool true, _, _, _, _, _, _, _, _, _, _, _, _, _, _, _, _, _, _, _], []⟩) rfl rfl rfl rfl ?_
          refine W.op (v := .bool true) (fr1 := ⟨[_, _, _, _, _, _, _, _, _, _, _, _, _, _, _, _, _, _, _, _, _, _, _, _, _, _, _, _, _, _, _, _, _, _, _, _, _, _, _, _, _, _, _, _, _, _, _, _, _, _, _, _, _, _, _, _, _, _, _, _, _, _, _, _, _, _, .bool true, _, _, _, _, _, _, _, _, _, _, _, _, _, _, _, _, _, _], []⟩) rfl rfl rfl rfl ?_
          refine W.op (v := .bool true) (fr1 := ⟨[_, _, _, _, .bool true, _, _, _, _, _, _, _, _, _, _, _, _, _, _, _, _, _, _, _, _, _, _, _, _, _, _, _, _, _, _, _, _, _, _, _, _, _, _, _, _, _, _, _, _, _, _, _, _, _, _, _, _, _, _, _, _, _, _, _, _, _, _, _, _, _, _, _, _, _, _, _, _, _, _, _, _, _, _, _, _], []⟩) rfl rfl rfl rfl ?_
          refine EndsOps.nil ?_
          refine Ends.ret ?_
          exact ⟨rfl, rfl, hO182, by
            show Value.bool true = Value.bool true
            rfl⟩
end Go.Ev.R1
