/-
  EV: contracts of the first seat's functions.
-/
import Derived.Test.YtelpkdjibjddlaaEvShB1
import Derived.Test.YtelpkdjibjddlaaEvKeep
set_option linter.unusedSimpArgs false
set_option linter.unusedVariables false
namespace Go.Ev.R1
open Go Go.Ev Go.Proofs
set_option maxRecDepth 10000

theorem c68 (al : Option Addr) (l : List Ed) (cl Nl ol : Nat) (vl : List Value) (yl zl : Nat) (n : Int) (hB : l.length ≤ 1000) (hN : n ≤ 1000) (hR : Right l n) (L N1 N2 z1 z2 : Nat) (s0 s : St) (hO0 : Own s0 s) (Hl : Sl Ed.cells 3 s.t s.next al l Nl ol vl yl zl) (hr1 : Row s.t s.next N1 [.slice al l.length cl] 22 z1) (hr2 : Row s.t s.next N2 [.int .i64 n] 3 z2) (Wr : Nat → Prop) (hWr : ∀ M, Wr M → M < s.next) (Inv : Nat → Tree → Prop) (hst : ∀ j t t', Inv j t → (∀ M, Wr M → t'.get M = t.get M) → Inv j t') (Stop : Tree → Prop) (hy : ∀ (j : Nat) (s1 : St) (a b : Int), (keptS l n)[j]? = some (a, b) → Inv j s1.t → Own s0 s1 → s.next ≤ s1.next → EndsYield R1.T L [.int .i64 a, .int .i64 b] s1 fun v s2 => Own s0 s2 ∧ s1.next ≤ s2.next ∧ (∀ M, M < s1.next → ¬ Wr M → s2.t.get M = s1.t.get M) ∧ ((v = .bool true ∧ Inv (j + 1) s2.t) ∨ (v = .bool false ∧ Stop s2.t))) (hI : Inv 0 s.t) : EndsOn R1.T 68 [.func (.yield L) #[] #[], .pointer (some ⟨N1, 0, none⟩), .pointer (some ⟨N2, 0, none⟩)] s0 s (fun _ t _ => Inv (keptS l n).length t ∨ Stop t) := by
  refine EndsOn.of (rs := []) (fr0 := ⟨[.func (.yield L) #[] #[], .pointer (some ⟨N1, 0, none⟩), .pointer (some ⟨N2, 0, none⟩), undef, undef, undef, undef, undef, undef, undef, undef, undef, undef, undef, undef, undef, undef, undef, undef, undef, undef, undef, undef, undef, undef, undef, undef, undef, undef, undef, undef, undef, undef, undef, undef, undef], []⟩) (by kernel_rfl : R1.T.fn 68 = some ⟨36, (Try.f68.body).getD .skip, []⟩) rfl hO0 ?_
  have Ml := Hl.small
  simp only [Try.f68, Option.getD]
  refine Ends.seq ?_
  refine Ends.seq ?_
  refine Ends.region ?_
  refine W.op (v := .slice al l.length cl) (fr1 := ⟨[_, _, _, _, _, _, _, .slice al l.length cl, _, _, _, _, _, _, _, _, _, _, _, _, _, _, _, _, _, _, _, _, _, _, _, _, _, _, _, _], []⟩) rfl (p_load1 hr1 rfl rfl rfl rfl) rfl rfl ?_
  refine W.op (v := .int .i64 n) (fr1 := ⟨[_, _, _, _, _, _, _, _, .int .i64 n, _, _, _, _, _, _, _, _, _, _, _, _, _, _, _, _, _, _, _, _, _, _, _, _, _, _, _], []⟩) rfl (p_load1 hr2 rfl rfl rfl rfl) rfl rfl ?_
  refine W.call (ar := [.slice al l.length cl, .int .i64 n]) (X := .bool true) (fr1 := ⟨[_, _, _, _, _, _, _, _, _, .bool true, _, _, _, _, _, _, _, _, _, _, _, _, _, _, _, _, _, _, _, _, _, _, _, _, _, _], []⟩) hO0 rfl rfl rfl rfl ((c35 _ _ _ _ _ _ _ _ n _ (Hl.own (Own.refl s))).mono fun v _ _ h => h.trans (congrArg Value.bool (decide_eq_true hR))) rfl ?_
  intro s1 hO2 hS3
  have hI4 := hst _ _ _ hI (fun M hM => hS3.old M (Nat.lt_of_lt_of_le (hWr M hM) (Nat.le_refl _)))
  have nx5 : s.next ≤ s1.next := by have := hS3.next; omega
  have hE6 := (Own.refl s).trans hS3
  have r7 := hr1.own hS3
  have r8 := hr2.own hS3
  refine W.op (v := .bool false) (fr1 := ⟨[_, _, _, _, _, _, _, _, _, _, .bool false, _, _, _, _, _, _, _, _, _, _, _, _, _, _, _, _, _, _, _, _, _, _, _, _, _], []⟩) rfl rfl rfl rfl ?_
  refine EndsOps.nil ?_
  refine Ends.condF rfl ?_
  refine Ends.skip ?_
  refine Ends.seq ?_
  refine Ends.region ?_
  refine W.op (v := .slice al l.length cl) (fr1 := ⟨[_, _, _, _, _, _, _, _, _, _, _, .slice al l.length cl, _, _, _, _, _, _, _, _, _, _, _, _, _, _, _, _, _, _, _, _, _, _, _, _], []⟩) rfl (p_load1 r7 rfl rfl rfl rfl) rfl rfl ?_
  refine W.op (v := .int .i64 n) (fr1 := ⟨[_, _, _, _, _, _, _, _, _, _, _, _, .int .i64 n, _, _, _, _, _, _, _, _, _, _, _, _, _, _, _, _, _, _, _, _, _, _, _], []⟩) rfl (p_load1 r8 rfl rfl rfl rfl) rfl rfl ?_
  refine W.callE (ar := [.slice al l.length cl, .int .i64 n]) (fF := fun v9 => ⟨[_, _, _, _, _, _, _, _, _, _, _, _, _, v9, _, _, _, _, _, _, _, _, _, _, _, _, _, _, _, _, _, _, _, _, _, _], []⟩) hO2 rfl rfl rfl rfl (c65 _ _ _ _ _ _ _ _ n hB _ (Hl.own hE6)) (fun _ => rfl) ?_
  intro v9 s10 hR13 hO11 hS12
  have hI14 := hst _ _ _ hI4 (fun M hM => hS12.old M (Nat.lt_of_lt_of_le (hWr M hM) (nx5)))
  have nx15 : s.next ≤ s10.next := by have := hS12.next; omega
  have hE16 := hE6.trans hS12
  have r17 := r7.own hS12
  have r18 := r8.own hS12
  obtain ⟨a19, cq20, N21, v22, y23, z24, rfl, H25, lo26, C27⟩ := hR13.sl (fun _ => rfl)
  have sm_a19 := H25.small
  have hlb28 := fun hl => Nat.le_trans (nx5) (lo26 hl)
  refine W.op (v := .int .i64 (((runsS l n).length : Nat) : Int)) (fr1 := ⟨[_, _, _, _, _, _, _, _, _, _, _, _, _, _, .int .i64 (((runsS l n).length : Nat) : Int), _, _, _, _, _, _, _, _, _, _, _, _, _, _, _, _, _, _, _, _, _], []⟩) rfl rfl rfl rfl ?_
  refine W.op (v := .int .i64 0) (fr1 := ⟨[_, _, _, _, _, _, _, _, _, _, _, _, _, _, _, .int .i64 0, _, _, _, _, _, _, _, _, _, _, _, _, _, _, _, _, _, _, _, _], []⟩) rfl rfl rfl rfl ?_
  refine EndsOps.nil ?_
  refine W.block ?_
  refine Ends.loopInv (fun d fr s1 => ∃ (i : Nat) (j5 j6 j16 j17 j18 j19 j20 j21 j22 j23 j24 j25 j26 j27 j28 j29 j30 j31 j32 j33 j34 j35 : Value), fr = ⟨[.func (.yield L) #[] #[], .pointer (some ⟨N1, 0, none⟩), .pointer (some ⟨N2, 0, none⟩), undef, undef, j5, j6, .slice al l.length cl, .int .i64 n, .bool true, .bool false, .slice al l.length cl, .int .i64 n, .slice a19 ((runsS l n).length) cq20, .int .i64 (((runsS l n).length : Nat) : Int), .int .i64 ((i : Nat) : Int), j16, j17, j18, j19, j20, j21, j22, j23, j24, j25, j26, j27, j28, j29, j30, j31, j32, j33, j34, j35], []⟩ ∧ Own s0 s1 ∧ d = (runsS l n).length - i ∧ (i ≤ (runsS l n).length) ∧ (Sl Run.cells 3 s1.t s1.next a19 (runsS l n) N21 0 v22 y23 z24) ∧ (s.next ≤ s1.next) ∧ (Inv (kpos (runsS l n) i) s1.t)) ?_ _ _ _ ⟨0, _, _, _, _, _, _, _, _, _, _, _, _, _, _, _, _, _, _, _, _, _, _, rfl, hO11, rfl, Nat.zero_le _, H25, nx15, hI14⟩
  rintro d _ s29 ⟨i, j5, j6, j16, j17, j18, j19, j20, j21, j22, j23, j24, j25, j26, j27, j28, j29, j30, j31, j32, j33, j34, j35, rfl, hO30, hd31, hi, hH, hnx, hInv⟩
  refine Ends.seq ?_
  refine Ends.region ?_
  by_cases h32 : ((i : Nat) : Int) < (((runsS l n).length : Nat) : Int)
  · skip
    refine W.op (v := .bool true) (fr1 := ⟨[_, _, _, _, _, _, _, _, _, _, _, _, _, _, _, _, .bool true, _, _, _, _, _, _, _, _, _, _, _, _, _, _, _, _, _, _, _], []⟩) rfl (p_bin (ltT h32)) rfl rfl ?_
    refine EndsOps.nil ?_
    refine Ends.seq ?_
    refine Ends.condT rfl ?_
    refine Ends.skip ?_
    refine Ends.seq ?_
    refine W.block ?_
    refine Ends.seq ?_
    refine Ends.region ?_
    obtain ⟨e33, he34⟩ := ex_at (l := (runsS l n)) (i := i) (by omega)
    refine W.op (v := .pointer (some ⟨N21, 0 + i * 3, none⟩)) (fr1 := ⟨[_, _, _, _, _, _, _, _, _, _, _, _, _, _, _, _, _, .pointer (some ⟨N21, 0 + i * 3, none⟩), _, _, _, _, _, _, _, _, _, _, _, _, _, _, _, _, _, _], []⟩) rfl (p_ix (Sl.ix hH rfl rfl he34 _)) rfl rfl ?_
    refine W.op (v := .agg ⟨[.int .i64 e33.fr, .int .i64 e33.to, .int .i64 e33.by']⟩) (fr1 := ⟨[_, _, _, _, _, _, _, _, _, _, _, _, _, _, _, _, _, _, .agg ⟨[.int .i64 e33.fr, .int .i64 e33.to, .int .i64 e33.by']⟩, _, _, _, _, _, _, _, _, _, _, _, _, _, _, _, _, _], []⟩) rfl (p_loadA (Sl.row' hH he34) rfl rfl rfl rfl (hH.get _ _ he34)) rfl rfl ?_
    obtain ⟨N35, hN36⟩ : ∃ N, N = s29.next := ⟨_, rfl⟩
    have hne37 := fun hl => Nat.ne_of_lt (hN36 ▸ (hH.row hl).lt)
    have hnb38 : s.next ≤ N35 := hN36 ▸ (hnx)
    refine W.new (N := N35) (vs := [.int .i64 0, .int .i64 0, .int .i64 0]) (fr1 := ⟨[_, _, _, _, _, .pointer (some ⟨N35, 0, none⟩), _, _, _, _, _, _, _, _, _, _, _, _, _, _, _, _, _, _, _, _, _, _, _, _, _, _, _, _, _, _], []⟩) hO30 hN36 rfl (p_alloc zero101 rfl) rfl rfl ?_
    intro s39 hO40 hS41 r42 hB43
    have hI44 := hst _ _ _ hInv (fun M hM => hS41.old M (Nat.lt_of_lt_of_le (hWr M hM) (hnx)))
    have H45 := hH.own hS41
    have nx46 : s.next ≤ s39.next := by have := hS41.next; omega
    refine W.store2 (cs := [.int .i64 e33.fr, .int .i64 e33.to, .int .i64 e33.by']) (vs' := [.int .i64 e33.fr, .int .i64 e33.to, .int .i64 e33.by']) (fr1 := ⟨[_, _, _, _, _, _, _, _, _, _, _, _, _, _, _, _, _, _, _, _, _, _, _, _, _, _, _, _, _, _, _, _, _, _, _, _], []⟩) hO40 r42 hB43 rfl rfl rfl rfl (by kernel_rfl) (by simp) (by simp [END, oneCell]) rfl rfl ?_
    intro s47 hO48 hn49 hu50 r51 hX52
    have hI53 := hst _ _ _ hI44 (fun M hM => hu50 M (Nat.ne_of_lt (Nat.lt_of_lt_of_le (hWr M hM) hnb38)))
    have H54 := H45.upd hn49 hu50 hne37
    have nx55 : s.next ≤ s47.next := by have := hn49; omega
    refine EndsOps.nil ?_
    refine Ends.seq ?_
    refine Ends.region ?_
    refine W.op (v := .pointer (some ⟨N35, 0, none⟩)) (fr1 := ⟨[_, _, _, _, _, _, _, _, _, _, _, _, _, _, _, _, _, _, _, .pointer (some ⟨N35, 0, none⟩), _, _, _, _, _, _, _, _, _, _, _, _, _, _, _, _], []⟩) rfl rfl rfl rfl ?_
    refine W.op (v := .int .i64 e33.fr) (fr1 := ⟨[_, _, _, _, _, _, _, _, _, _, _, _, _, _, _, _, _, _, _, _, .int .i64 e33.fr, _, _, _, _, _, _, _, _, _, _, _, _, _, _, _], []⟩) rfl (p_load1 r51 rfl rfl rfl rfl) rfl rfl ?_
    refine W.op (v := .int .i64 e33.fr) (fr1 := ⟨[_, _, _, _, _, _, .int .i64 e33.fr, _, _, _, _, _, _, _, _, _, _, _, _, _, _, _, _, _, _, _, _, _, _, _, _, _, _, _, _, _], []⟩) rfl rfl rfl rfl ?_
    refine EndsOps.nil ?_
    refine W.block ?_
    have hrb := runIn hR he34
    refine Ends.loopInv (fun d fr s1 => ∃ (p : Int) (j21 j22 j23 j24 j25 j26 j27 j28 j29 j30 j31 j32 j33 j34 : Value), fr = ⟨[.func (.yield L) #[] #[], .pointer (some ⟨N1, 0, none⟩), .pointer (some ⟨N2, 0, none⟩), undef, undef, .pointer (some ⟨N35, 0, none⟩), .int .i64 p, .slice al l.length cl, .int .i64 n, .bool true, .bool false, .slice al l.length cl, .int .i64 n, .slice a19 ((runsS l n).length) cq20, .int .i64 (((runsS l n).length : Nat) : Int), .int .i64 ((i : Nat) : Int), .bool true, .pointer (some ⟨N21, 0 + i * 3, none⟩), .agg ⟨[.int .i64 e33.fr, .int .i64 e33.to, .int .i64 e33.by']⟩, .pointer (some ⟨N35, 0, none⟩), .int .i64 e33.fr, j21, j22, j23, j24, j25, j26, j27, j28, j29, j30, j31, j32, j33, j34, j35], []⟩ ∧ Own s0 s1 ∧ d = (e33.to - p).toNat ∧ (e33.fr ≤ p) ∧ (p ≤ e33.to) ∧ (Sl Run.cells 3 s1.t s1.next a19 (runsS l n) N21 0 v22 y23 z24) ∧ (s.next ≤ s1.next) ∧ (Row s1.t s1.next N35 [.int .i64 e33.fr, .int .i64 e33.to, .int .i64 e33.by'] 101 0) ∧ (Inv (kpos (runsS l n) i + (p - e33.fr).toNat) s1.t)) ?_ _ _ _ ⟨e33.fr, _, _, _, _, _, _, _, _, _, _, _, _, _, _, rfl, hO48, rfl, Int.le_refl _, by omega, H54, nx55, r51, (by rw [Int.sub_self]; exact hI53)⟩
    rintro d _ s56 ⟨p, j21, j22, j23, j24, j25, j26, j27, j28, j29, j30, j31, j32, j33, j34, rfl, hO57, hd58, hp1, hp2, hH2, hnx2, hrow, hInv2⟩
    refine Ends.seq ?_
    refine Ends.seq ?_
    refine Ends.region ?_
    refine W.op (v := .int .i64 p) (fr1 := ⟨[_, _, _, _, _, _, _, _, _, _, _, _, _, _, _, _, _, _, _, _, _, .int .i64 p, _, _, _, _, _, _, _, _, _, _, _, _, _, _], []⟩) rfl rfl rfl rfl ?_
    refine W.op (v := .pointer (some ⟨N35, 1, none⟩)) (fr1 := ⟨[_, _, _, _, _, _, _, _, _, _, _, _, _, _, _, _, _, _, _, _, _, _, .pointer (some ⟨N35, 1, none⟩), _, _, _, _, _, _, _, _, _, _, _, _, _], []⟩) rfl rfl rfl rfl ?_
    refine W.op (v := .int .i64 e33.to) (fr1 := ⟨[_, _, _, _, _, _, _, _, _, _, _, _, _, _, _, _, _, _, _, _, _, _, _, .int .i64 e33.to, _, _, _, _, _, _, _, _, _, _, _, _], []⟩) rfl (p_load1 hrow rfl rfl rfl rfl) rfl rfl ?_
    by_cases h59 : p < e33.to
    · skip
      refine W.op (v := .bool true) (fr1 := ⟨[_, _, _, _, _, _, _, _, _, _, _, _, _, _, _, _, _, _, _, _, _, _, _, _, .bool true, _, _, _, _, _, _, _, _, _, _, _], []⟩) rfl (p_bin (ltT h59)) rfl rfl ?_
      refine EndsOps.nil ?_
      refine Ends.condT rfl ?_
      refine Ends.skip ?_
      refine Ends.seq ?_
      refine W.block ?_
      refine Ends.seq ?_
      refine Ends.region ?_
      refine W.op (v := .func (.yield L) #[] #[]) (fr1 := ⟨[_, _, _, _, _, _, _, _, _, _, _, _, _, _, _, _, _, _, _, _, _, _, _, _, _, _, _, .func (.yield L) #[] #[], _, _, _, _, _, _, _, _], []⟩) rfl rfl rfl rfl ?_
      refine W.op (v := .int .i64 p) (fr1 := ⟨[_, _, _, _, _, _, _, _, _, _, _, _, _, _, _, _, _, _, _, _, _, _, _, _, _, _, _, _, .int .i64 p, _, _, _, _, _, _, _], []⟩) rfl rfl rfl rfl ?_
      refine W.op (v := .int .i64 p) (fr1 := ⟨[_, _, _, _, _, _, _, _, _, _, _, _, _, _, _, _, _, _, _, _, _, _, _, _, _, _, _, _, _, .int .i64 p, _, _, _, _, _, _], []⟩) rfl rfl rfl rfl ?_
      refine W.op (v := .pointer (some ⟨N35, 2, none⟩)) (fr1 := ⟨[_, _, _, _, _, _, _, _, _, _, _, _, _, _, _, _, _, _, _, _, _, _, _, _, _, _, _, _, _, _, .pointer (some ⟨N35, 2, none⟩), _, _, _, _, _], []⟩) rfl rfl rfl rfl ?_
      refine W.op (v := .int .i64 e33.by') (fr1 := ⟨[_, _, _, _, _, _, _, _, _, _, _, _, _, _, _, _, _, _, _, _, _, _, _, _, _, _, _, _, _, _, _, .int .i64 e33.by', _, _, _, _], []⟩) rfl (p_load1 hrow rfl rfl rfl rfl) rfl rfl ?_
      refine W.op (v := .int .i64 (W (p + e33.by'))) (fr1 := ⟨[_, _, _, _, _, _, _, _, _, _, _, _, _, _, _, _, _, _, _, _, _, _, _, _, _, _, _, _, _, _, _, _, .int .i64 (W (p + e33.by')), _, _, _], []⟩) rfl (p_bin addW) rfl rfl ?_
      have hk := kept_at he34 hp1 h59
      refine W.yield (ar := [.int .i64 p, .int .i64 (W (p + e33.by'))]) (fF := fun v60 => ⟨[_, _, _, _, _, _, _, _, _, _, _, _, _, _, _, _, _, _, _, _, _, _, _, _, _, _, _, _, _, _, _, _, _, v60, _, _], []⟩) rfl rfl rfl rfl (hy _ _ _ _ hk hInv2 hO57 hnx2) (fun _ => rfl) ?_
      rintro v60 s61 ⟨hO62, hny63, hke64, ⟨rfl, hI65⟩ | ⟨rfl, hStop66⟩⟩
      · skip
        have nx67 := Nat.le_trans hnx2 hny63
        have r68 : Row s61.t s61.next _ _ _ _ := ⟨(hke64 _ hrow.lt (fun h => absurd (hWr _ h) (Nat.not_lt.2 hnb38))).trans hrow.get, Nat.lt_of_lt_of_le hrow.lt hny63⟩
        have H69 := Sl.keep (s1 := s61) hH2 hny63 fun hl => hke64 _ (hH2.row hl).lt (fun h => absurd (hWr _ h) (Nat.not_lt.2 (hlb28 hl)))
        refine W.op (v := .bool false) (fr1 := ⟨[_, _, _, _, _, _, _, _, _, _, _, _, _, _, _, _, _, _, _, _, _, _, _, _, _, _, _, _, _, _, _, _, _, _, .bool false, _], []⟩) rfl rfl rfl rfl ?_
        refine EndsOps.nil ?_
        refine Ends.condF rfl ?_
        refine Ends.skip ?_
        refine Ends.region ?_
        refine W.op (v := .int .i64 p) (fr1 := ⟨[_, _, _, _, _, _, _, _, _, _, _, _, _, _, _, _, _, _, _, _, _, _, _, _, _, .int .i64 p, _, _, _, _, _, _, _, _, _, _], []⟩) rfl rfl rfl rfl ?_
        refine W.op (v := .int .i64 (p + 1)) (fr1 := ⟨[_, _, _, _, _, _, _, _, _, _, _, _, _, _, _, _, _, _, _, _, _, _, _, _, _, _, .int .i64 (p + 1), _, _, _, _, _, _, _, _, _], []⟩) rfl (p_bin (addI rfl (by omega) (by omega))) rfl rfl ?_
        refine W.op (v := .int .i64 (p + 1)) (fr1 := ⟨[_, _, _, _, _, _, .int .i64 (p + 1), _, _, _, _, _, _, _, _, _, _, _, _, _, _, _, _, _, _, _, _, _, _, _, _, _, _, _, _, _], []⟩) rfl rfl rfl rfl ?_
        refine EndsOps.nil ?_
        exact ⟨_, (by omega), p + 1, _, _, _, _, _, _, _, _, _, _, _, _, _, _, rfl, hO62, rfl, by omega, by omega, H69, nx67, r68, (by have h := hI65; rwa [show kpos (runsS l n) i + (p - e33.fr).toNat + 1 = kpos (runsS l n) i + (p + 1 - e33.fr).toNat by omega] at h)⟩
      · skip
        have nx70 := Nat.le_trans hnx2 hny63
        refine W.op (v := .bool true) (fr1 := ⟨[_, _, _, _, _, _, _, _, _, _, _, _, _, _, _, _, _, _, _, _, _, _, _, _, _, _, _, _, _, _, _, _, _, _, .bool true, _], []⟩) rfl rfl rfl rfl ?_
        refine EndsOps.nil ?_
        refine Ends.condT rfl ?_
        refine Ends.ret ?_
        exact ⟨rfl, rfl, ⟨hO62, nx70⟩, .inr hStop66⟩
    · skip
      refine W.op (v := .bool false) (fr1 := ⟨[_, _, _, _, _, _, _, _, _, _, _, _, _, _, _, _, _, _, _, _, _, _, _, _, .bool false, _, _, _, _, _, _, _, _, _, _, _], []⟩) rfl (p_bin (ltF h59)) rfl rfl ?_
      refine EndsOps.nil ?_
      refine Ends.condF rfl ?_
      refine Ends.exit ?_
      refine W.outT rfl ?_
      refine Ends.region ?_
      refine W.op (v := .int .i64 ((i + 1 : Nat) : Int)) (fr1 := ⟨[_, _, _, _, _, _, _, _, _, _, _, _, _, _, _, _, _, _, _, _, _, _, _, _, _, _, _, _, _, _, _, _, _, _, _, .int .i64 ((i + 1 : Nat) : Int)], []⟩) rfl (p_bin (addI (by omega) (by omega) (by omega))) rfl rfl ?_
      refine W.op (v := .int .i64 ((i + 1 : Nat) : Int)) (fr1 := ⟨[_, _, _, _, _, _, _, _, _, _, _, _, _, _, _, .int .i64 ((i + 1 : Nat) : Int), _, _, _, _, _, _, _, _, _, _, _, _, _, _, _, _, _, _, _, _], []⟩) rfl rfl rfl rfl ?_
      refine EndsOps.nil ?_
      exact ⟨_, (by omega), i + 1, _, _, _, _, _, _, _, _, _, _, _, _, _, _, _, _, _, _, _, _, _, _, rfl, hO57, rfl, by omega, hH2, hnx2, (by rw [kpos_step he34]; have h := hInv2; rwa [show p = e33.to by omega] at h)⟩
  · skip
    refine W.op (v := .bool false) (fr1 := ⟨[_, _, _, _, _, _, _, _, _, _, _, _, _, _, _, _, .bool false, _, _, _, _, _, _, _, _, _, _, _, _, _, _, _, _, _, _, _], []⟩) rfl (p_bin (ltF h32)) rfl rfl ?_
    refine EndsOps.nil ?_
    refine Ends.seq ?_
    refine Ends.condF rfl ?_
    refine Ends.exit ?_
    refine W.outT rfl ?_
    exact ⟨rfl, rfl, ⟨hO30, hnx⟩, .inl (by have h := hInv; rw [show i = (runsS l n).length by omega, kpos_all] at h; exact h)⟩
end Go.Ev.R1
