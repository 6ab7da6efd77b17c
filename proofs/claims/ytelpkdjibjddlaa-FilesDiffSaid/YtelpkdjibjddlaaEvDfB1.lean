/-
  EV: contracts of the first seat's functions.
-/
import Derived.Test.YtelpkdjibjddlaaEvDfA1
namespace Go.Ev.R1
open Go Go.Ev Go.Proofs
set_option maxRecDepth 10000
set_option maxHeartbeats 4000000

theorem zero119 : R1.T.zero 119 = some (.agg ⟨[.string ByteArray.empty, .slice none 0 0]⟩) := by kernel_rfl
theorem app59 : AppOk R1.T 59 59 119 2 40 := ⟨by kernel_rfl, by kernel_rfl, by kernel_rfl, by kernel_rfl, ⟨_, zero119, rfl⟩, by decide, by decide⟩
theorem revd_at {x : List UInt8} {p q k : Nat} {a : UInt8} (h : x[q]? = some a) (hp : p ≤ q) (hk : q + k + 1 = x.length) : (x.drop p).reverse[k]? = some a := by
  refine rev_at (m := q - p) ?_ (by rw [List.length_drop]; omega)
  rw [List.getElem?_drop, show p + (q - p) = q by omega]; exact h
theorem diffOf_same {a b : List Fl} {i : Nat} {f g : Fl} (hf : a[i]? = some f) (hg : b[i]? = some g) (h : B f.nm = B g.nm ∧ B f.tx = B g.tx) : diffOf (a.take (i + 1)) (b.take (i + 1)) = diffOf (a.take i) (b.take i) := by
  have hl : (a.take i).length = (b.take i).length := by
    have h1 := (List.getElem?_eq_some_iff.1 hf).1
    have h2 := (List.getElem?_eq_some_iff.1 hg).1
    simp; omega
  unfold diffOf
  rw [List.take_add_one, List.take_add_one, hf, hg]
  simp only [Option.toList_some]
  rw [List.zip_append hl]
  simp [List.filter_append, h.1, h.2]
theorem diffOf_more {a b : List Fl} {i : Nat} {f g : Fl} (hf : a[i]? = some f) (hg : b[i]? = some g) (h : ¬ (B f.nm = B g.nm ∧ B f.tx = B g.tx)) : diffOf (a.take (i + 1)) (b.take (i + 1)) = diffOf (a.take i) (b.take i) ++ [(f.nm, diffE f.tx g.tx)] := by
  have hl : (a.take i).length = (b.take i).length := by
    have h1 := (List.getElem?_eq_some_iff.1 hf).1
    have h2 := (List.getElem?_eq_some_iff.1 hg).1
    simp; omega
  unfold diffOf
  rw [List.take_add_one, List.take_add_one, hf, hg]
  simp only [Option.toList_some]
  rw [List.zip_append hl, List.zip_cons_cons, List.zip_nil_left, List.filter_append, List.map_append]
  rw [List.filter_cons_of_pos (p := fun p : Fl × Fl => decide (¬ (B p.1.nm = B p.2.nm ∧ B p.1.tx = B p.2.tx))) (a := (f, g)) (decide_eq_true h)]
  rfl

theorem c41 (aa : Option Addr) (a : List Fl) (ca Na oa : Nat) (va : List Value) (ya za : Nat) (ab : Option Addr) (b : List Fl) (cb Nb ob : Nat) (vb : List Value) (yb zb : Nat) (hA : a.length ≤ 1000) (Ka : ∀ f ∈ a, f.Ok) (Kb : ∀ f ∈ b, f.Ok) (s : St) (Ha : Sl Fl.cells 2 s.t s.next aa a Na oa va ya za) (Hb : Sl Fl.cells 2 s.t s.next ab b Nb ob vb yb zb)  : EndsPure R1.T 41 [.slice aa a.length ca, .slice ab b.length cb] s (fun v t m => (FR a ∧ FR b ∧ Named a b → ∃ w o, v = .tuple ⟨[w, .nilIface]⟩ ∧ OL Pv.cells 2 119 s.next t m w o ∧ NE t m o ∧ o.map keyP = diffOf a b) ∧ (¬ (FR a ∧ FR b) → v = .tuple ⟨[.slice none 0 0, .iface 37 (.int .i64 2)]⟩) ∧ (FR a ∧ FR b ∧ ¬ Named a b → v = .tuple ⟨[.slice none 0 0, .iface 37 (.int .i64 5)]⟩)) := by
  refine EndsPure.of (rs := [4, 5]) (fr0 := ⟨[.slice aa a.length ca, .slice ab b.length cb, undef, undef, undef, undef, undef, undef, undef, undef, undef, undef, undef, undef, undef, undef, undef, undef, undef, undef, undef, undef, undef, undef, undef, undef, undef, undef, undef, undef, undef, undef, undef, undef, undef, undef, undef, undef, undef, undef, undef, undef, undef, undef, undef, undef, undef, undef, undef, undef, undef, undef, undef, undef, undef], []⟩) (by kernel_rfl : R1.T.fn 41 = some ⟨55, (Try.f41.body).getD .skip, [.tmp 4, .tmp 5]⟩) rfl ?_
  have hO0 := Own.refl s
  have Ma := Ha.small
  have Mb := Hb.small
  simp only [Try.f41, Option.getD]
  refine Ends.seq ?_
  refine Ends.region ?_
  refine W.op (v := .slice none 0 0) (fr1 := ⟨[_,_,_,_, .slice none 0 0, _,_,_,_,_,_,_,_,_,_,_,_,_,_,_,_,_,_,_,_,_,_,_,_,_,_,_,_,_,_,_,_,_,_,_,_,_,_,_,_,_,_,_,_,_,_,_,_,_,_], []⟩) rfl rfl rfl rfl ?_
  refine W.op (v := .nilIface) (fr1 := ⟨[_,_,_,_,_, .nilIface, _,_,_,_,_,_,_,_,_,_,_,_,_,_,_,_,_,_,_,_,_,_,_,_,_,_,_,_,_,_,_,_,_,_,_,_,_,_,_,_,_,_,_,_,_,_,_,_,_], []⟩) rfl rfl rfl rfl ?_
  refine EndsOps.nil ?_
  refine Ends.seq ?_
  refine Ends.seq ?_
  refine Ends.region ?_
  refine W.op (v := .slice aa a.length ca) (fr1 := ⟨[_,_,_,_,_,_,_,_,_,_, .slice aa a.length ca, _,_,_,_,_,_,_,_,_,_,_,_,_,_,_,_,_,_,_,_,_,_,_,_,_,_,_,_,_,_,_,_,_,_,_,_,_,_,_,_,_,_,_,_], []⟩) rfl rfl rfl rfl ?_
  by_cases h1 : FR a
  · skip
    refine W.call (ar := [.slice aa a.length ca]) (X := .bool true) (fr1 := ⟨[_,_,_,_,_,_,_,_,_,_,_, .bool true, _,_,_,_,_,_,_,_,_,_,_,_,_,_,_,_,_,_,_,_,_,_,_,_,_,_,_,_,_,_,_,_,_,_,_,_,_,_,_,_,_,_,_], []⟩) hO0 rfl rfl rfl rfl ((c48 _ _ _ _ _ _ _ _ _ (Ha.own hO0)).mono fun v _ _ h => h.trans (congrArg Value.bool (decide_eq_true h1))) rfl ?_
    intro s2 hO3 hS4
    refine W.op (v := .bool false) (fr1 := ⟨[_,_,_,_,_,_,_,_,_,_,_,_, .bool false, _,_,_,_,_,_,_,_,_,_,_,_,_,_,_,_,_,_,_,_,_,_,_,_,_,_,_,_,_,_,_,_,_,_,_,_,_,_,_,_,_,_], []⟩) rfl rfl rfl rfl ?_
    refine W.op (v := .bool false) (fr1 := ⟨[_,_,_,_,_,_,_,_,_,_,_,_,_, .bool false, _,_,_,_,_,_,_,_,_,_,_,_,_,_,_,_,_,_,_,_,_,_,_,_,_,_,_,_,_,_,_,_,_,_,_,_,_,_,_,_,_], []⟩) rfl rfl rfl rfl ?_
    refine W.op (v := .slice ab b.length cb) (fr1 := ⟨[_,_,_,_,_,_,_,_,_,_,_,_,_,_, .slice ab b.length cb, _,_,_,_,_,_,_,_,_,_,_,_,_,_,_,_,_,_,_,_,_,_,_,_,_,_,_,_,_,_,_,_,_,_,_,_,_,_,_,_], []⟩) rfl rfl rfl rfl ?_
    by_cases h5 : FR b
    · skip
      refine W.call (ar := [.slice ab b.length cb]) (X := .bool true) (fr1 := ⟨[_,_,_,_,_,_,_,_,_,_,_,_,_,_,_, .bool true, _,_,_,_,_,_,_,_,_,_,_,_,_,_,_,_,_,_,_,_,_,_,_,_,_,_,_,_,_,_,_,_,_,_,_,_,_,_,_], []⟩) hO3 rfl rfl rfl rfl ((c48 _ _ _ _ _ _ _ _ _ (Hb.own hO3)).mono fun v _ _ h => h.trans (congrArg Value.bool (decide_eq_true h5))) rfl ?_
      intro s6 hO7 hS8
      refine W.op (v := .bool false) (fr1 := ⟨[_,_,_,_,_,_,_,_,_,_,_,_,_,_,_,_, .bool false, _,_,_,_,_,_,_,_,_,_,_,_,_,_,_,_,_,_,_,_,_,_,_,_,_,_,_,_,_,_,_,_,_,_,_,_,_,_], []⟩) rfl rfl rfl rfl ?_
      refine W.op (v := .bool false) (fr1 := ⟨[_,_,_,_,_,_,_,_,_,_,_,_,_,_,_,_,_, .bool false, _,_,_,_,_,_,_,_,_,_,_,_,_,_,_,_,_,_,_,_,_,_,_,_,_,_,_,_,_,_,_,_,_,_,_,_,_], []⟩) rfl rfl rfl rfl ?_
      refine EndsOps.nil ?_
      refine Ends.condF rfl ?_
      refine Ends.skip ?_
      refine Ends.seq ?_
      refine Ends.region ?_
      refine W.op (v := .func (.func 77) ⟨[]⟩ ⟨[]⟩) (fr1 := ⟨[_,_,_,_,_,_, .func (.func 77) ⟨[]⟩ ⟨[]⟩, _,_,_,_,_,_,_,_,_,_,_,_,_,_,_,_,_,_,_,_,_,_,_,_,_,_,_,_,_,_,_,_,_,_,_,_,_,_,_,_,_,_,_,_,_,_,_,_], []⟩) rfl rfl rfl rfl ?_
      refine EndsOps.nil ?_
      refine Ends.seq ?_
      refine Ends.seq ?_
      refine Ends.region ?_
      refine W.op (v := .slice aa a.length ca) (fr1 := ⟨[_,_,_,_,_,_,_,_,_,_,_,_,_,_,_,_,_,_,_, .slice aa a.length ca, _,_,_,_,_,_,_,_,_,_,_,_,_,_,_,_,_,_,_,_,_,_,_,_,_,_,_,_,_,_,_,_,_,_,_], []⟩) rfl rfl rfl rfl ?_
      refine W.op (v := .slice ab b.length cb) (fr1 := ⟨[_,_,_,_,_,_,_,_,_,_,_,_,_,_,_,_,_,_,_,_, .slice ab b.length cb, _,_,_,_,_,_,_,_,_,_,_,_,_,_,_,_,_,_,_,_,_,_,_,_,_,_,_,_,_,_,_,_,_,_], []⟩) rfl rfl rfl rfl ?_
      refine W.op (v := .func (.func 77) ⟨[]⟩ ⟨[]⟩) (fr1 := ⟨[_,_,_,_,_,_,_,_,_,_,_,_,_,_,_,_,_,_,_,_,_, .func (.func 77) ⟨[]⟩ ⟨[]⟩, _,_,_,_,_,_,_,_,_,_,_,_,_,_,_,_,_,_,_,_,_,_,_,_,_,_,_,_,_,_,_,_,_], []⟩) rfl rfl rfl rfl ?_
      by_cases h9 : Named a b
      · skip
        refine W.call (ar := [.slice aa a.length ca, .slice ab b.length cb, .func (.func 77) ⟨[]⟩ ⟨[]⟩]) (X := .bool true) (fr1 := ⟨[_,_,_,_,_,_,_,_,_,_,_,_,_,_,_,_,_,_,_,_,_,_, .bool true, _,_,_,_,_,_,_,_,_,_,_,_,_,_,_,_,_,_,_,_,_,_,_,_,_,_,_,_,_,_,_,_], []⟩) hO7 rfl rfl rfl rfl ((c78 _ _ _ _ _ _ _ _ _ _ _ _ _ _ _ _ _ (Ha.own hO7) (Hb.own hO7)).mono fun v _ _ h => h.trans (congrArg Value.bool (decide_eq_true h9))) rfl ?_
        intro s10 hO11 hS12
        refine W.op (v := .bool false) (fr1 := ⟨[_,_,_,_,_,_,_,_,_,_,_,_,_,_,_,_,_,_,_,_,_,_,_, .bool false, _,_,_,_,_,_,_,_,_,_,_,_,_,_,_,_,_,_,_,_,_,_,_,_,_,_,_,_,_,_,_], []⟩) rfl rfl rfl rfl ?_
        refine EndsOps.nil ?_
        refine Ends.condF rfl ?_
        refine Ends.skip ?_
        refine Ends.seq ?_
        refine Ends.region ?_
        refine W.op (v := .slice none 0 0) (fr1 := ⟨[_,_,_,_,_,_,_, .slice none 0 0, _,_,_,_,_,_,_,_,_,_,_,_,_,_,_,_,_,_,_,_,_,_,_,_,_,_,_,_,_,_,_,_,_,_,_,_,_,_,_,_,_,_,_,_,_,_,_], []⟩) rfl rfl rfl rfl ?_
        refine EndsOps.nil ?_
        refine Ends.seq ?_
        refine Ends.seq ?_
        refine Ends.region ?_
        refine W.op (v := .slice aa a.length ca) (fr1 := ⟨[_,_,_,_,_,_,_,_,_,_,_,_,_,_,_,_,_,_,_,_,_,_,_,_,_, .slice aa a.length ca, _,_,_,_,_,_,_,_,_,_,_,_,_,_,_,_,_,_,_,_,_,_,_,_,_,_,_,_,_], []⟩) rfl rfl rfl rfl ?_
        refine W.op (v := .int .i64 ((a.length : Nat) : Int)) (fr1 := ⟨[_,_,_,_,_,_,_,_,_,_,_,_,_,_,_,_,_,_,_,_,_,_,_,_,_,_, .int .i64 ((a.length : Nat) : Int), _,_,_,_,_,_,_,_,_,_,_,_,_,_,_,_,_,_,_,_,_,_,_,_,_,_,_,_], []⟩) rfl rfl rfl rfl ?_
        refine W.op (v := .int .i64 0) (fr1 := ⟨[_,_,_,_,_,_,_,_,_,_,_,_,_,_,_,_,_,_,_,_,_,_,_,_,_,_,_, .int .i64 0, _,_,_,_,_,_,_,_,_,_,_,_,_,_,_,_,_,_,_,_,_,_,_,_,_,_,_], []⟩) rfl rfl rfl rfl ?_
        refine EndsOps.nil ?_
        refine W.block ?_
        have hlen := h9.1
        refine Ends.loopJ (fun d jf13 fr s1 => ∃ (i : Nat) (o : List Pv) (v : Value), fr = ⟨[.slice aa a.length ca, .slice ab b.length cb, undef, undef, .slice none 0 0, .nilIface, .func (.func 77) ⟨[]⟩ ⟨[]⟩, v, (jf13 8), (jf13 9), .slice aa a.length ca, .bool true, .bool false, .bool false, .slice ab b.length cb, .bool true, .bool false, .bool false, undef, .slice aa a.length ca, .slice ab b.length cb, .func (.func 77) ⟨[]⟩ ⟨[]⟩, .bool true, .bool false, undef, .slice aa a.length ca, .int .i64 ((a.length : Nat) : Int), .int .i64 ((i : Nat) : Int), (jf13 28), (jf13 29), (jf13 30), (jf13 31), (jf13 32), (jf13 33), (jf13 34), (jf13 35), (jf13 36), (jf13 37), (jf13 38), (jf13 39), (jf13 40), (jf13 41), (jf13 42), (jf13 43), (jf13 44), (jf13 45), (jf13 46), (jf13 47), (jf13 48), (jf13 49), (jf13 50), (jf13 51), (jf13 52), (jf13 53), undef], []⟩ ∧ Own s s1 ∧ d = a.length - i ∧ (OL Pv.cells 2 119 s.next s1.t s1.next v o) ∧ (i ≤ a.length) ∧ (NE s1.t s1.next o) ∧ (o.map keyP = diffOf (a.take i) (b.take i)) ∧ (o.length ≤ i)) ?_ _ _ _ ⟨0, [], .slice none 0 0, (by kernel_rfl), hO11, rfl, OL.nil, Nat.zero_le _, NE.nil, rfl, Nat.le_refl _⟩
        rintro d jf13 _ s14 ⟨i, o, v, rfl, hO15, hd16, hol17, hi, hne, hkey, hol9⟩
        refine Ends.seq ?_
        refine Ends.region ?_
        by_cases h18 : ((i : Nat) : Int) < ((a.length : Nat) : Int)
        · skip
          refine W.op (v := .bool true) (fr1 := ⟨[_,_,_,_,_,_,_,_,_,_,_,_,_,_,_,_,_,_,_,_,_,_,_,_,_,_,_,_, .bool true, _,_,_,_,_,_,_,_,_,_,_,_,_,_,_,_,_,_,_,_,_,_,_,_,_,_], []⟩) rfl (p_bin (ltT h18)) rfl rfl ?_
          refine EndsOps.nil ?_
          refine Ends.seq ?_
          refine Ends.condT rfl ?_
          refine Ends.skip ?_
          refine Ends.seq ?_
          refine W.block ?_
          refine Ends.seq ?_
          refine Ends.region ?_
          refine W.op (v := .int .i64 ((i : Nat) : Int)) (fr1 := ⟨[_,_,_,_,_,_,_,_,_,_,_,_,_,_,_,_,_,_,_,_,_,_,_,_,_,_,_,_,_, .int .i64 ((i : Nat) : Int), _,_,_,_,_,_,_,_,_,_,_,_,_,_,_,_,_,_,_,_,_,_,_,_,_], []⟩) rfl rfl rfl rfl ?_
          obtain ⟨e19, he20⟩ := ex_at (l := a) (i := i) (by omega)
          refine W.op (v := .pointer (some ⟨Na, oa + i * 2, none⟩)) (fr1 := ⟨[_,_,_,_,_,_,_,_,_,_,_,_,_,_,_,_,_,_,_,_,_,_,_,_,_,_,_,_,_,_, .pointer (some ⟨Na, oa + i * 2, none⟩), _,_,_,_,_,_,_,_,_,_,_,_,_,_,_,_,_,_,_,_,_,_,_,_], []⟩) rfl (p_ix (Sl.ix Ha rfl rfl he20 _)) rfl rfl ?_
          refine W.op (v := .agg ⟨[.string e19.nm, .string e19.tx]⟩) (fr1 := ⟨[_,_,_,_,_,_,_,_,_,_,_,_,_,_,_,_,_,_,_,_,_,_,_,_,_,_,_,_,_,_,_, .agg ⟨[.string e19.nm, .string e19.tx]⟩, _,_,_,_,_,_,_,_,_,_,_,_,_,_,_,_,_,_,_,_,_,_,_], []⟩) rfl (p_loadA (Sl.row' (Ha.own hO15) he20) rfl rfl rfl rfl ((Ha.own hO15).get _ _ he20)) rfl rfl ?_
          obtain ⟨N21, hN22⟩ : ∃ N, N = s14.next := ⟨_, rfl⟩
          have hb23 : s14.next ≤ N21 := hN22 ▸ (Own.refl s14).next
          refine W.new (N := N21) (vs := [.string ByteArray.empty, .string ByteArray.empty]) (fr1 := ⟨[_,_,_,_,_,_,_,_,_, .pointer (some ⟨N21, 0, none⟩), _,_,_,_,_,_,_,_,_,_,_,_,_,_,_,_,_,_,_,_,_,_,_,_,_,_,_,_,_,_,_,_,_,_,_,_,_,_,_,_,_,_,_,_,_], []⟩) hO15 hN22 rfl (p_alloc zero68 rfl) rfl rfl ?_
          intro s24 hO25 hS26 r27 hB28
          have ne29 := NE.own hne hS26
          have hE30 := (Own.refl s14).trans hS26
          refine W.op (v := .int .i64 ((i : Nat) : Int)) (fr1 := ⟨[_,_,_,_,_,_,_,_, .int .i64 ((i : Nat) : Int), _,_,_,_,_,_,_,_,_,_,_,_,_,_,_,_,_,_,_,_,_,_,_,_,_,_,_,_,_,_,_,_,_,_,_,_,_,_,_,_,_,_,_,_,_,_], []⟩) rfl rfl rfl rfl ?_
          refine W.store2 (cs := [.string e19.nm, .string e19.tx]) (vs' := [.string e19.nm, .string e19.tx]) (fr1 := ⟨[_,_,_,_,_,_,_,_,_,_,_,_,_,_,_,_,_,_,_,_,_,_,_,_,_,_,_,_,_,_,_,_,_,_,_,_,_,_,_,_,_,_,_,_,_,_,_,_,_,_,_,_,_,_,_], []⟩) hO25 r27 hB28 rfl rfl rfl rfl (by kernel_rfl) (by simp) (by simp [END, oneCell]) rfl rfl ?_
          intro s31 hO32 hn33 hu34 r35 hX36
          have ne37 := NE.oth ne29 ((Oth.refl (fun e => decide (e = 68)) _).upd r27 (by decide) hn33 hu34) (by decide)
          have hE38 := hX36 s14 hE30 hb23
          refine EndsOps.nil ?_
          refine Ends.seq ?_
          refine Ends.drawW (bef := [0, 0, 0, 6, 14, 31]) (by kernel_rfl) ?_
          refine D.load (v := .agg ⟨[.string e19.nm, .string e19.tx]⟩) (fr1 := ⟨[_,_,_,_,_,_,_,_,_,_,_,_,_,_,_,_,_,_,_,_,_,_,_,_,_,_,_,_,_,_,_,_, .agg ⟨[.string e19.nm, .string e19.tx]⟩, _,_,_,_,_,_,_,_,_,_,_,_,_,_,_,_,_,_,_,_,_,_], []⟩) rfl rfl rfl (fun _ h => by cases h) (fun s1 hg => (p_loadA ⟨hg.trans (r35).get, (r35).lt⟩ rfl rfl rfl rfl rfl)) rfl ?_
          refine D.op (v := .slice ab b.length cb) (fr1 := ⟨[_,_,_,_,_,_,_,_,_,_,_,_,_,_,_,_,_,_,_,_,_,_,_,_,_,_,_,_,_,_,_,_,_, .slice ab b.length cb, _,_,_,_,_,_,_,_,_,_,_,_,_,_,_,_,_,_,_,_,_], []⟩) rfl rfl rfl rfl rfl ?_
          refine D.op (v := .int .i64 ((i : Nat) : Int)) (fr1 := ⟨[_,_,_,_,_,_,_,_,_,_,_,_,_,_,_,_,_,_,_,_,_,_,_,_,_,_,_,_,_,_,_,_,_,_, .int .i64 ((i : Nat) : Int), _,_,_,_,_,_,_,_,_,_,_,_,_,_,_,_,_,_,_,_], []⟩) rfl rfl rfl rfl rfl ?_
          obtain ⟨e39, he40⟩ := ex_at (l := b) (i := i) (by omega)
          refine D.op (v := .pointer (some ⟨Nb, ob + i * 2, none⟩)) (fr1 := ⟨[_,_,_,_,_,_,_,_,_,_,_,_,_,_,_,_,_,_,_,_,_,_,_,_,_,_,_,_,_,_,_,_,_,_,_, .pointer (some ⟨Nb, ob + i * 2, none⟩), _,_,_,_,_,_,_,_,_,_,_,_,_,_,_,_,_,_,_], []⟩) rfl (p_ix (Sl.ix Hb rfl rfl he40 _)) rfl rfl rfl ?_
          refine D.load (v := .agg ⟨[.string e39.nm, .string e39.tx]⟩) (fr1 := ⟨[_,_,_,_,_,_,_,_,_,_,_,_,_,_,_,_,_,_,_,_,_,_,_,_,_,_,_,_,_,_,_,_,_,_,_,_, .agg ⟨[.string e39.nm, .string e39.tx]⟩, _,_,_,_,_,_,_,_,_,_,_,_,_,_,_,_,_,_], []⟩) rfl rfl rfl (fun _ h => by cases h) (fun s1 hg => (p_loadA ⟨hg.trans ((Sl.row' (Hb.own hO32) he40)).get, ((Sl.row' (Hb.own hO32) he40)).lt⟩ rfl rfl rfl rfl ((Hb.own hO32).get _ _ he40))) rfl ?_
          by_cases h41 : B e19.nm = B e39.nm ∧ B e19.tx = B e39.tx
          · skip
            refine D.op (v := .bool false) (fr1 := ⟨[_,_,_,_,_,_,_,_,_,_,_,_,_,_,_,_,_,_,_,_,_,_,_,_,_,_,_,_,_,_,_,_,_,_,_,_,_, .bool false, _,_,_,_,_,_,_,_,_,_,_,_,_,_,_,_,_], []⟩) rfl (p_bin (fl68neqT h41)) rfl rfl rfl ?_
            refine D.nil ?_
            refine Ends.condF rfl ?_
            refine Ends.skip ?_
            refine Ends.region ?_
            refine W.op (v := .int .i64 ((i + 1 : Nat) : Int)) (fr1 := ⟨[_,_,_,_,_,_,_,_,_,_,_,_,_,_,_,_,_,_,_,_,_,_,_,_,_,_,_,_,_,_,_,_,_,_,_,_,_,_,_,_,_,_,_,_,_,_,_,_,_,_,_,_,_, .int .i64 ((i + 1 : Nat) : Int), _], []⟩) rfl (p_bin (addI (by omega) (by omega) (by omega))) rfl rfl ?_
            refine W.op (v := .int .i64 ((i + 1 : Nat) : Int)) (fr1 := ⟨[_,_,_,_,_,_,_,_,_,_,_,_,_,_,_,_,_,_,_,_,_,_,_,_,_,_,_, .int .i64 ((i + 1 : Nat) : Int), _,_,_,_,_,_,_,_,_,_,_,_,_,_,_,_,_,_,_,_,_,_,_,_,_,_,_], []⟩) rfl rfl rfl rfl ?_
            refine EndsOps.nil ?_
            exact ⟨_, (by omega), i + 1, o, v, (by kernel_rfl), hO32, rfl, (hol17.own hE38), by omega, ne37, (by rw [diffOf_same he20 he40 h41]; exact hkey), (by first | omega | (rw [List.length_append]; simp only [List.length_singleton]; omega))⟩
          · skip
            refine D.op (v := .bool true) (fr1 := ⟨[_,_,_,_,_,_,_,_,_,_,_,_,_,_,_,_,_,_,_,_,_,_,_,_,_,_,_,_,_,_,_,_,_,_,_,_,_, .bool true, _,_,_,_,_,_,_,_,_,_,_,_,_,_,_,_,_], []⟩) rfl (p_bin (fl68neqF h41)) rfl rfl rfl ?_
            refine D.nil ?_
            refine Ends.condT rfl ?_
            refine Ends.drawE (bef := [0, 0, 2, 0, 8, 0, 0, 96, 224, 480, 1016, 2040, 4094, 8190, 16383, 32767]) (by kernel_rfl) ?_
            refine E.op (v := v) (fr1 := ⟨[_,_,_,_,_,_,_,_,_,_,_,_,_,_,_,_,_,_,_,_,_,_,_,_,_,_,_,_,_,_,_,_,_,_,_,_,_,_, v, _,_,_,_,_,_,_,_,_,_,_,_,_,_,_,_], []⟩) rfl rfl rfl rfl rfl ?_
            refine E.op (v := .pointer (some ⟨N21, 0, none⟩)) (fr1 := ⟨[_,_,_,_,_,_,_,_,_,_,_,_,_,_,_,_,_,_,_,_,_,_,_,_,_,_,_,_,_,_,_,_,_,_,_,_,_,_,_, .pointer (some ⟨N21, 0, none⟩), _,_,_,_,_,_,_,_,_,_,_,_,_,_,_], []⟩) rfl rfl rfl rfl rfl ?_
            refine E.load (v := .string e19.nm) (fr1 := ⟨[_,_,_,_,_,_,_,_,_,_,_,_,_,_,_,_,_,_,_,_,_,_,_,_,_,_,_,_,_,_,_,_,_,_,_,_,_,_,_,_, .string e19.nm, _,_,_,_,_,_,_,_,_,_,_,_,_,_], []⟩) rfl rfl rfl (fun _ h => by cases h) (fun s1 hg => (p_load1 ⟨hg.trans (r35).get, (r35).lt⟩ rfl rfl rfl rfl)) rfl ?_
            refine E.op (v := .pointer (some ⟨N21, 1, none⟩)) (fr1 := ⟨[_,_,_,_,_,_,_,_,_,_,_,_,_,_,_,_,_,_,_,_,_,_,_,_,_,_,_,_,_,_,_,_,_,_,_,_,_,_,_,_,_, .pointer (some ⟨N21, 1, none⟩), _,_,_,_,_,_,_,_,_,_,_,_,_], []⟩) rfl rfl rfl rfl rfl ?_
            refine E.load (v := .string e19.tx) (fr1 := ⟨[_,_,_,_,_,_,_,_,_,_,_,_,_,_,_,_,_,_,_,_,_,_,_,_,_,_,_,_,_,_,_,_,_,_,_,_,_,_,_,_,_,_, .string e19.tx, _,_,_,_,_,_,_,_,_,_,_,_], []⟩) rfl rfl rfl (fun _ h => by cases h) (fun s1 hg => (p_load1 ⟨hg.trans (r35).get, (r35).lt⟩ rfl rfl rfl rfl)) rfl ?_
            refine E.op (v := .slice ab b.length cb) (fr1 := ⟨[_,_,_,_,_,_,_,_,_,_,_,_,_,_,_,_,_,_,_,_,_,_,_,_,_,_,_,_,_,_,_,_,_,_,_,_,_,_,_,_,_,_,_, .slice ab b.length cb, _,_,_,_,_,_,_,_,_,_,_], []⟩) rfl rfl rfl rfl rfl ?_
            refine E.op (v := .int .i64 ((i : Nat) : Int)) (fr1 := ⟨[_,_,_,_,_,_,_,_,_,_,_,_,_,_,_,_,_,_,_,_,_,_,_,_,_,_,_,_,_,_,_,_,_,_,_,_,_,_,_,_,_,_,_,_, .int .i64 ((i : Nat) : Int), _,_,_,_,_,_,_,_,_,_], []⟩) rfl rfl rfl rfl rfl ?_
            refine E.op (v := .pointer (some ⟨Nb, ob + i * 2, none⟩)) (fr1 := ⟨[_,_,_,_,_,_,_,_,_,_,_,_,_,_,_,_,_,_,_,_,_,_,_,_,_,_,_,_,_,_,_,_,_,_,_,_,_,_,_,_,_,_,_,_,_, .pointer (some ⟨Nb, ob + i * 2, none⟩), _,_,_,_,_,_,_,_,_], []⟩) rfl (p_ix (Sl.ix Hb rfl rfl he40 _)) rfl rfl rfl ?_
            refine E.op (v := .pointer (some ⟨Nb, ob + i * 2 + 1, none⟩)) (fr1 := ⟨[_,_,_,_,_,_,_,_,_,_,_,_,_,_,_,_,_,_,_,_,_,_,_,_,_,_,_,_,_,_,_,_,_,_,_,_,_,_,_,_,_,_,_,_,_,_, .pointer (some ⟨Nb, ob + i * 2 + 1, none⟩), _,_,_,_,_,_,_,_], []⟩) rfl rfl rfl rfl rfl ?_
            refine E.load (v := .string e39.tx) (fr1 := ⟨[_,_,_,_,_,_,_,_,_,_,_,_,_,_,_,_,_,_,_,_,_,_,_,_,_,_,_,_,_,_,_,_,_,_,_,_,_,_,_,_,_,_,_,_,_,_,_, .string e39.tx, _,_,_,_,_,_,_], []⟩) rfl rfl rfl (fun _ h => by cases h) (fun s1 hg => (p_load1 ⟨hg.trans ((Sl.row' (Hb.own hO32) he40)).get, ((Sl.row' (Hb.own hO32) he40)).lt⟩ rfl rfl rfl ((Hb.own hO32).at (j := 1) he40 rfl))) rfl ?_
            refine E.call (ar := [.string e19.tx, .string e39.tx]) (X := .agg ⟨[.int .i64 ((diffE e19.tx e39.tx).lo), .int .i64 ((diffE e19.tx e39.tx).hi), .string ((diffE e19.tx e39.tx).tx)]⟩) (fr1 := ⟨[_,_,_,_,_,_,_,_,_,_,_,_,_,_,_,_,_,_,_,_,_,_,_,_,_,_,_,_,_,_,_,_,_,_,_,_,_,_,_,_,_,_,_,_,_,_,_,_, .agg ⟨[.int .i64 ((diffE e19.tx e39.tx).lo), .int .i64 ((diffE e19.tx e39.tx).hi), .string ((diffE e19.tx e39.tx).tx)]⟩, _,_,_,_,_,_], []⟩) hO32 rfl rfl rfl rfl rfl (c79 e19.tx e39.tx (Ka _ (List.mem_of_getElem? he20)).tx (Kb _ (List.mem_of_getElem? he40)).tx _) rfl ?_
            intro s42 hO43 hS44
            have ne45 := NE.own ne37 hS44
            have hE46 := hE38.trans hS44
            have r47 := r35.own hS44
            obtain ⟨N48, hN49⟩ : ∃ N, N = s42.next := ⟨_, rfl⟩
            have hb50 : s14.next ≤ N48 := hN49 ▸ hE46.next
            refine E.newS (N := N48) (vF := fun N => .slice (some ⟨N, 0, none⟩) 1 1) (vs := [.int .i64 ((diffE e19.tx e39.tx).lo), .int .i64 ((diffE e19.tx e39.tx).hi), .string ((diffE e19.tx e39.tx).tx)]) (fr1 := ⟨[_,_,_,_,_,_,_,_,_,_,_,_,_,_,_,_,_,_,_,_,_,_,_,_,_,_,_,_,_,_,_,_,_,_,_,_,_,_,_,_,_,_,_,_,_,_,_,_,_, .slice (some ⟨N48, 0, none⟩) 1 1, _,_,_,_,_], []⟩) hO43 hN49 rfl rfl (p_bs rfl rfl zero97 rfl (by decide) rfl rfl) rfl rfl rfl ?_
            intro s51 hO52 hS53 r54 hB55
            have ne56 := NE.own ne45 hS53
            have hE57 := hE46.trans hS53
            have r58 := r47.own hS53
            refine E.op (v := .agg ⟨[.string e19.nm, .slice (some ⟨N48, 0, none⟩) 1 1]⟩) (fr1 := ⟨[_,_,_,_,_,_,_,_,_,_,_,_,_,_,_,_,_,_,_,_,_,_,_,_,_,_,_,_,_,_,_,_,_,_,_,_,_,_,_,_,_,_,_,_,_,_,_,_,_,_, .agg ⟨[.string e19.nm, .slice (some ⟨N48, 0, none⟩) 1 1]⟩, _,_,_,_], []⟩) rfl rfl rfl rfl rfl ?_
            obtain ⟨N59, hN60⟩ : ∃ N, N = s51.next := ⟨_, rfl⟩
            have hb61 : s14.next ≤ N59 := hN60 ▸ hE57.next
            refine E.newS (N := N59) (vF := fun N => .slice (some ⟨N, 0, none⟩) 1 1) (vs := [.string e19.nm, .slice (some ⟨N48, 0, none⟩) 1 1]) (fr1 := ⟨[_,_,_,_,_,_,_,_,_,_,_,_,_,_,_,_,_,_,_,_,_,_,_,_,_,_,_,_,_,_,_,_,_,_,_,_,_,_,_,_,_,_,_,_,_,_,_,_,_,_,_, .slice (some ⟨N59, 0, none⟩) 1 1, _,_,_], []⟩) hO52 hN60 rfl rfl (p_bs rfl rfl zero119 rfl (by decide) rfl rfl) rfl rfl rfl ?_
            intro s62 hO63 hS64 r65 hB66
            have ne67 := NE.own ne56 hS64
            have hE68 := hE57.trans hS64
            have r69 := r58.own hS64
            have r70 := r54.own hS64
            refine E.appendO (c := Pv.cells) (l := o) (x := ⟨e19.nm, N48, (diffE e19.tx e39.tx)⟩) (fF := fun v71 => ⟨[_,_,_,_,_,_,_,_,_,_,_,_,_,_,_,_,_,_,_,_,_,_,_,_,_,_,_,_,_,_,_,_,_,_,_,_,_,_,_,_,_,_,_,_,_,_,_,_,_,_,_,_, v71, _,_], []⟩) app59 (fun _ => rfl) (by exact Pv.one) hO63 hE68 hol17 r65 rfl rfl rfl rfl rfl (by decide) (by omega) (by omega) (fun _ => rfl) ?_
            intro v71 s72 hO73 hnx74 hu75 hol76 ho77
            have ne78 := NE.oth ne67 ho77 (by decide)
            have r79 := ho77 _ _ _ _ r69 (by decide)
            have r80 := ho77 _ _ _ _ r70 (by decide)
            have ne81 := NE.snoc (p := ⟨e19.nm, N48, (diffE e19.tx e39.tx)⟩) ne78 r80
            refine F.op (v := v71) (fr1 := ⟨[_,_,_,_,_,_,_, v71, _,_,_,_,_,_,_,_,_,_,_,_,_,_,_,_,_,_,_,_,_,_,_,_,_,_,_,_,_,_,_,_,_,_,_,_,_,_,_,_,_,_,_,_,_,_,_], []⟩) rfl rfl rfl rfl rfl ?_
            refine F.nil ?_
            refine Ends.region ?_
            refine W.op (v := .int .i64 ((i + 1 : Nat) : Int)) (fr1 := ⟨[_,_,_,_,_,_,_,_,_,_,_,_,_,_,_,_,_,_,_,_,_,_,_,_,_,_,_,_,_,_,_,_,_,_,_,_,_,_,_,_,_,_,_,_,_,_,_,_,_,_,_,_,_, .int .i64 ((i + 1 : Nat) : Int), _], []⟩) rfl (p_bin (addI (by omega) (by omega) (by omega))) rfl rfl ?_
            refine W.op (v := .int .i64 ((i + 1 : Nat) : Int)) (fr1 := ⟨[_,_,_,_,_,_,_,_,_,_,_,_,_,_,_,_,_,_,_,_,_,_,_,_,_,_,_, .int .i64 ((i + 1 : Nat) : Int), _,_,_,_,_,_,_,_,_,_,_,_,_,_,_,_,_,_,_,_,_,_,_,_,_,_,_], []⟩) rfl rfl rfl rfl ?_
            refine EndsOps.nil ?_
            exact ⟨_, (by omega), i + 1, (o ++ [⟨e19.nm, N48, (diffE e19.tx e39.tx)⟩]), v71, (by kernel_rfl), hO73, rfl, hol76, by omega, ne81, (by rw [diffOf_more he20 he40 h41]; rw [List.map_append, hkey]; rfl), (by first | omega | (rw [List.length_append]; simp only [List.length_singleton]; omega))⟩
        · skip
          refine W.op (v := .bool false) (fr1 := ⟨[_,_,_,_,_,_,_,_,_,_,_,_,_,_,_,_,_,_,_,_,_,_,_,_,_,_,_,_, .bool false, _,_,_,_,_,_,_,_,_,_,_,_,_,_,_,_,_,_,_,_,_,_,_,_,_,_], []⟩) rfl (p_bin (ltF h18)) rfl rfl ?_
          refine EndsOps.nil ?_
          refine Ends.seq ?_
          refine Ends.condF rfl ?_
          refine Ends.exit ?_
          refine W.outT rfl ?_
          refine Ends.seq ?_
          refine Ends.region ?_
          refine W.op (v := v) (fr1 := ⟨[_,_,_,_,_,_,_,_,_,_,_,_,_,_,_,_,_,_,_,_,_,_,_,_,_,_,_,_,_,_,_,_,_,_,_,_,_,_,_,_,_,_,_,_,_,_,_,_,_,_,_,_,_,_, v], []⟩) rfl rfl rfl rfl ?_
          refine W.op (v := v) (fr1 := ⟨[_,_,_,_, v, _,_,_,_,_,_,_,_,_,_,_,_,_,_,_,_,_,_,_,_,_,_,_,_,_,_,_,_,_,_,_,_,_,_,_,_,_,_,_,_,_,_,_,_,_,_,_,_,_,_], []⟩) rfl rfl rfl rfl ?_
          refine W.op (v := .nilIface) (fr1 := ⟨[_,_,_,_,_, .nilIface, _,_,_,_,_,_,_,_,_,_,_,_,_,_,_,_,_,_,_,_,_,_,_,_,_,_,_,_,_,_,_,_,_,_,_,_,_,_,_,_,_,_,_,_,_,_,_,_,_], []⟩) rfl rfl rfl rfl ?_
          refine EndsOps.nil ?_
          refine Ends.ret ?_
          exact ⟨rfl, rfl, hO15, ⟨fun _ => ⟨_, _, rfl, hol17, hne, (by rw [hkey, show i = a.length by omega, List.take_length]; rw [show a.length = b.length by omega, List.take_length])⟩, fun h => absurd ⟨h1, h5⟩ h, fun h => absurd h9 h.2.2⟩⟩
      · skip
        refine W.call (ar := [.slice aa a.length ca, .slice ab b.length cb, .func (.func 77) ⟨[]⟩ ⟨[]⟩]) (X := .bool false) (fr1 := ⟨[_,_,_,_,_,_,_,_,_,_,_,_,_,_,_,_,_,_,_,_,_,_, .bool false, _,_,_,_,_,_,_,_,_,_,_,_,_,_,_,_,_,_,_,_,_,_,_,_,_,_,_,_,_,_,_,_], []⟩) hO7 rfl rfl rfl rfl ((c78 _ _ _ _ _ _ _ _ _ _ _ _ _ _ _ _ _ (Ha.own hO7) (Hb.own hO7)).mono fun v _ _ h => h.trans (congrArg Value.bool (decide_eq_false h9))) rfl ?_
        intro s82 hO83 hS84
        refine W.op (v := .bool true) (fr1 := ⟨[_,_,_,_,_,_,_,_,_,_,_,_,_,_,_,_,_,_,_,_,_,_,_, .bool true, _,_,_,_,_,_,_,_,_,_,_,_,_,_,_,_,_,_,_,_,_,_,_,_,_,_,_,_,_,_,_], []⟩) rfl rfl rfl rfl ?_
        refine EndsOps.nil ?_
        refine Ends.condT rfl ?_
        refine Ends.seq ?_
        refine Ends.region ?_
        refine W.op (v := .iface 37 (.int .i64 5)) (fr1 := ⟨[_,_,_,_,_,_,_,_,_,_,_,_,_,_,_,_,_,_,_,_,_,_,_,_, .iface 37 (.int .i64 5), _,_,_,_,_,_,_,_,_,_,_,_,_,_,_,_,_,_,_,_,_,_,_,_,_,_,_,_,_,_], []⟩) rfl rfl rfl rfl ?_
        refine W.op (v := .slice none 0 0) (fr1 := ⟨[_,_,_,_, .slice none 0 0, _,_,_,_,_,_,_,_,_,_,_,_,_,_,_,_,_,_,_,_,_,_,_,_,_,_,_,_,_,_,_,_,_,_,_,_,_,_,_,_,_,_,_,_,_,_,_,_,_,_], []⟩) rfl rfl rfl rfl ?_
        refine W.op (v := .iface 37 (.int .i64 5)) (fr1 := ⟨[_,_,_,_,_, .iface 37 (.int .i64 5), _,_,_,_,_,_,_,_,_,_,_,_,_,_,_,_,_,_,_,_,_,_,_,_,_,_,_,_,_,_,_,_,_,_,_,_,_,_,_,_,_,_,_,_,_,_,_,_,_], []⟩) rfl rfl rfl rfl ?_
        refine EndsOps.nil ?_
        refine Ends.ret ?_
        exact ⟨rfl, rfl, hO83, ⟨fun h => absurd h.2.2 h9, fun h => absurd ⟨h1, h5⟩ h, fun _ => rfl⟩⟩
    · skip
      refine W.call (ar := [.slice ab b.length cb]) (X := .bool false) (fr1 := ⟨[_,_,_,_,_,_,_,_,_,_,_,_,_,_,_, .bool false, _,_,_,_,_,_,_,_,_,_,_,_,_,_,_,_,_,_,_,_,_,_,_,_,_,_,_,_,_,_,_,_,_,_,_,_,_,_,_], []⟩) hO3 rfl rfl rfl rfl ((c48 _ _ _ _ _ _ _ _ _ (Hb.own hO3)).mono fun v _ _ h => h.trans (congrArg Value.bool (decide_eq_false h5))) rfl ?_
      intro s85 hO86 hS87
      refine W.op (v := .bool true) (fr1 := ⟨[_,_,_,_,_,_,_,_,_,_,_,_,_,_,_,_, .bool true, _,_,_,_,_,_,_,_,_,_,_,_,_,_,_,_,_,_,_,_,_,_,_,_,_,_,_,_,_,_,_,_,_,_,_,_,_,_], []⟩) rfl rfl rfl rfl ?_
      refine W.op (v := .bool true) (fr1 := ⟨[_,_,_,_,_,_,_,_,_,_,_,_,_,_,_,_,_, .bool true, _,_,_,_,_,_,_,_,_,_,_,_,_,_,_,_,_,_,_,_,_,_,_,_,_,_,_,_,_,_,_,_,_,_,_,_,_], []⟩) rfl rfl rfl rfl ?_
      refine EndsOps.nil ?_
      refine Ends.condT rfl ?_
      refine Ends.seq ?_
      refine Ends.region ?_
      refine W.op (v := .iface 37 (.int .i64 2)) (fr1 := ⟨[_,_,_,_,_,_,_,_,_,_,_,_,_,_,_,_,_,_, .iface 37 (.int .i64 2), _,_,_,_,_,_,_,_,_,_,_,_,_,_,_,_,_,_,_,_,_,_,_,_,_,_,_,_,_,_,_,_,_,_,_,_], []⟩) rfl rfl rfl rfl ?_
      refine W.op (v := .slice none 0 0) (fr1 := ⟨[_,_,_,_, .slice none 0 0, _,_,_,_,_,_,_,_,_,_,_,_,_,_,_,_,_,_,_,_,_,_,_,_,_,_,_,_,_,_,_,_,_,_,_,_,_,_,_,_,_,_,_,_,_,_,_,_,_,_], []⟩) rfl rfl rfl rfl ?_
      refine W.op (v := .iface 37 (.int .i64 2)) (fr1 := ⟨[_,_,_,_,_, .iface 37 (.int .i64 2), _,_,_,_,_,_,_,_,_,_,_,_,_,_,_,_,_,_,_,_,_,_,_,_,_,_,_,_,_,_,_,_,_,_,_,_,_,_,_,_,_,_,_,_,_,_,_,_,_], []⟩) rfl rfl rfl rfl ?_
      refine EndsOps.nil ?_
      refine Ends.ret ?_
      exact ⟨rfl, rfl, hO86, ⟨fun h => absurd h.2.1 h5, fun _ => rfl, fun h => absurd h.2.1 h5⟩⟩
  · skip
    refine W.call (ar := [.slice aa a.length ca]) (X := .bool false) (fr1 := ⟨[_,_,_,_,_,_,_,_,_,_,_, .bool false, _,_,_,_,_,_,_,_,_,_,_,_,_,_,_,_,_,_,_,_,_,_,_,_,_,_,_,_,_,_,_,_,_,_,_,_,_,_,_,_,_,_,_], []⟩) hO0 rfl rfl rfl rfl ((c48 _ _ _ _ _ _ _ _ _ (Ha.own hO0)).mono fun v _ _ h => h.trans (congrArg Value.bool (decide_eq_false h1))) rfl ?_
    intro s88 hO89 hS90
    refine W.op (v := .bool true) (fr1 := ⟨[_,_,_,_,_,_,_,_,_,_,_,_, .bool true, _,_,_,_,_,_,_,_,_,_,_,_,_,_,_,_,_,_,_,_,_,_,_,_,_,_,_,_,_,_,_,_,_,_,_,_,_,_,_,_,_,_], []⟩) rfl rfl rfl rfl ?_
    refine W.op (v := .bool true) (fr1 := ⟨[_,_,_,_,_,_,_,_,_,_,_,_,_, .bool true, _,_,_,_,_,_,_,_,_,_,_,_,_,_,_,_,_,_,_,_,_,_,_,_,_,_,_,_,_,_,_,_,_,_,_,_,_,_,_,_,_], []⟩) rfl rfl rfl rfl ?_
    refine W.skip (fr1 := ⟨[_,_,_,_,_,_,_,_,_,_,_,_,_,_, undef, _,_,_,_,_,_,_,_,_,_,_,_,_,_,_,_,_,_,_,_,_,_,_,_,_,_,_,_,_,_,_,_,_,_,_,_,_,_,_,_], []⟩) rfl rfl ?_
    refine W.skip (fr1 := ⟨[_,_,_,_,_,_,_,_,_,_,_,_,_,_,_, undef, _,_,_,_,_,_,_,_,_,_,_,_,_,_,_,_,_,_,_,_,_,_,_,_,_,_,_,_,_,_,_,_,_,_,_,_,_,_,_], []⟩) rfl rfl ?_
    refine W.skip (fr1 := ⟨[_,_,_,_,_,_,_,_,_,_,_,_,_,_,_,_, undef, _,_,_,_,_,_,_,_,_,_,_,_,_,_,_,_,_,_,_,_,_,_,_,_,_,_,_,_,_,_,_,_,_,_,_,_,_,_], []⟩) rfl rfl ?_
    refine W.op (v := .bool true) (fr1 := ⟨[_,_,_,_,_,_,_,_,_,_,_,_,_,_,_,_,_, .bool true, _,_,_,_,_,_,_,_,_,_,_,_,_,_,_,_,_,_,_,_,_,_,_,_,_,_,_,_,_,_,_,_,_,_,_,_,_], []⟩) rfl rfl rfl rfl ?_
    refine EndsOps.nil ?_
    refine Ends.condT rfl ?_
    refine Ends.seq ?_
    refine Ends.region ?_
    refine W.op (v := .iface 37 (.int .i64 2)) (fr1 := ⟨[_,_,_,_,_,_,_,_,_,_,_,_,_,_,_,_,_,_, .iface 37 (.int .i64 2), _,_,_,_,_,_,_,_,_,_,_,_,_,_,_,_,_,_,_,_,_,_,_,_,_,_,_,_,_,_,_,_,_,_,_,_], []⟩) rfl rfl rfl rfl ?_
    refine W.op (v := .slice none 0 0) (fr1 := ⟨[_,_,_,_, .slice none 0 0, _,_,_,_,_,_,_,_,_,_,_,_,_,_,_,_,_,_,_,_,_,_,_,_,_,_,_,_,_,_,_,_,_,_,_,_,_,_,_,_,_,_,_,_,_,_,_,_,_,_], []⟩) rfl rfl rfl rfl ?_
    refine W.op (v := .iface 37 (.int .i64 2)) (fr1 := ⟨[_,_,_,_,_, .iface 37 (.int .i64 2), _,_,_,_,_,_,_,_,_,_,_,_,_,_,_,_,_,_,_,_,_,_,_,_,_,_,_,_,_,_,_,_,_,_,_,_,_,_,_,_,_,_,_,_,_,_,_,_,_], []⟩) rfl rfl rfl rfl ?_
    refine EndsOps.nil ?_
    refine Ends.ret ?_
    exact ⟨rfl, rfl, hO89, ⟨fun h => absurd h.1 h1, fun _ => rfl, fun h => absurd h.1 h1⟩⟩

theorem c42 (aa : Option Addr) (a : List Fl) (ca Na oa : Nat) (va : List Value) (ya za : Nat) (ab : Option Addr) (b : List Fl) (cb Nb ob : Nat) (vb : List Value) (yb zb : Nat) (hA : a.length ≤ 1000) (Ka : ∀ f ∈ a, f.Ok) (Kb : ∀ f ∈ b, f.Ok) (s : St) (Ha : Sl Fl.cells 2 s.t s.next aa a Na oa va ya za) (Hb : Sl Fl.cells 2 s.t s.next ab b Nb ob vb yb zb)  : EndsPure R1.T 42 [.slice aa a.length ca, .slice ab b.length cb] s (fun v t m => (FR a ∧ FR b ∧ Named a b → ∃ w o, v = .tuple ⟨[w, .int .i64 0]⟩ ∧ OL Pv.cells 2 119 s.next t m w o ∧ NE t m o ∧ o.map keyP = diffOf a b) ∧ (¬ (FR a ∧ FR b) → v = .tuple ⟨[.slice none 0 0, .int .i64 2]⟩) ∧ (FR a ∧ FR b ∧ ¬ Named a b → v = .tuple ⟨[.slice none 0 0, .int .i64 5]⟩)) := by
  refine EndsPure.of (rs := [4, 5]) (fr0 := ⟨[.slice aa a.length ca, .slice ab b.length cb, undef, undef, undef, undef, undef, undef, undef, undef, undef, undef, undef, undef, undef, undef, undef, undef, undef, undef, undef, undef, undef, undef, undef, undef, undef, undef, undef, undef, undef, undef, undef, undef, undef, undef, undef, undef, undef, undef, undef, undef, undef, undef, undef, undef, undef, undef, undef, undef, undef, undef, undef, undef, undef, undef, undef, undef, undef, undef, undef, undef, undef, undef, undef, undef, undef, undef, undef, undef, undef, undef, undef, undef, undef, undef, undef, undef, undef, undef, undef, undef, undef, undef, undef, undef, undef, undef, undef, undef, undef, undef, undef, undef, undef, undef, undef, undef, undef, undef, undef, undef, undef, undef, undef, undef, undef, undef, undef, undef, undef, undef, undef, undef, undef, undef, undef, undef, undef, undef, undef, undef, undef, undef, undef, undef, undef, undef, undef], []⟩) (by kernel_rfl : R1.T.fn 42 = some ⟨129, (Try.f42.body).getD .skip, [.tmp 4, .tmp 5]⟩) rfl ?_
  have hO0 := Own.refl s
  have Ma := Ha.small
  have Mb := Hb.small
  simp only [Try.f42, Option.getD]
  refine Ends.seq ?_
  refine Ends.region ?_
  refine W.op (v := .slice none 0 0) (fr1 := ⟨[_,_,_,_, .slice none 0 0, _,_,_,_,_,_,_,_,_,_,_,_,_,_,_,_,_,_,_,_,_,_,_,_,_,_,_,_,_,_,_,_,_,_,_,_,_,_,_,_,_,_,_,_,_,_,_,_,_,_,_,_,_,_,_,_,_,_,_,_,_,_,_,_,_,_,_,_,_,_,_,_,_,_,_,_,_,_,_,_,_,_,_,_,_,_,_,_,_,_,_,_,_,_,_,_,_,_,_,_,_,_,_,_,_,_,_,_,_,_,_,_,_,_,_,_,_,_,_,_,_,_,_,_], []⟩) rfl rfl rfl rfl ?_
  refine W.op (v := .int .i64 0) (fr1 := ⟨[_,_,_,_,_, .int .i64 0, _,_,_,_,_,_,_,_,_,_,_,_,_,_,_,_,_,_,_,_,_,_,_,_,_,_,_,_,_,_,_,_,_,_,_,_,_,_,_,_,_,_,_,_,_,_,_,_,_,_,_,_,_,_,_,_,_,_,_,_,_,_,_,_,_,_,_,_,_,_,_,_,_,_,_,_,_,_,_,_,_,_,_,_,_,_,_,_,_,_,_,_,_,_,_,_,_,_,_,_,_,_,_,_,_,_,_,_,_,_,_,_,_,_,_,_,_,_,_,_,_,_,_], []⟩) rfl rfl rfl rfl ?_
  refine EndsOps.nil ?_
  refine Ends.seq ?_
  refine Ends.seq ?_
  refine Ends.region ?_
  refine W.op (v := .slice aa a.length ca) (fr1 := ⟨[_,_,_,_,_,_,_,_,_,_,_,_,_,_, .slice aa a.length ca, _,_,_,_,_,_,_,_,_,_,_,_,_,_,_,_,_,_,_,_,_,_,_,_,_,_,_,_,_,_,_,_,_,_,_,_,_,_,_,_,_,_,_,_,_,_,_,_,_,_,_,_,_,_,_,_,_,_,_,_,_,_,_,_,_,_,_,_,_,_,_,_,_,_,_,_,_,_,_,_,_,_,_,_,_,_,_,_,_,_,_,_,_,_,_,_,_,_,_,_,_,_,_,_,_,_,_,_,_,_,_,_,_,_], []⟩) rfl rfl rfl rfl ?_
  by_cases h1 : FR a
  · skip
    refine W.call (ar := [.slice aa a.length ca]) (X := .bool true) (fr1 := ⟨[_,_,_,_,_,_,_,_,_,_,_,_,_,_,_, .bool true, _,_,_,_,_,_,_,_,_,_,_,_,_,_,_,_,_,_,_,_,_,_,_,_,_,_,_,_,_,_,_,_,_,_,_,_,_,_,_,_,_,_,_,_,_,_,_,_,_,_,_,_,_,_,_,_,_,_,_,_,_,_,_,_,_,_,_,_,_,_,_,_,_,_,_,_,_,_,_,_,_,_,_,_,_,_,_,_,_,_,_,_,_,_,_,_,_,_,_,_,_,_,_,_,_,_,_,_,_,_,_,_,_], []⟩) hO0 rfl rfl rfl rfl ((c49 _ _ _ _ _ _ _ _ Ka _ (Ha.own hO0)).mono fun v _ _ h => h.trans (congrArg Value.bool (decide_eq_true h1))) rfl ?_
    intro s2 hO3 hS4
    refine W.op (v := .bool false) (fr1 := ⟨[_,_,_,_,_,_,_,_,_,_,_,_,_,_,_,_, .bool false, _,_,_,_,_,_,_,_,_,_,_,_,_,_,_,_,_,_,_,_,_,_,_,_,_,_,_,_,_,_,_,_,_,_,_,_,_,_,_,_,_,_,_,_,_,_,_,_,_,_,_,_,_,_,_,_,_,_,_,_,_,_,_,_,_,_,_,_,_,_,_,_,_,_,_,_,_,_,_,_,_,_,_,_,_,_,_,_,_,_,_,_,_,_,_,_,_,_,_,_,_,_,_,_,_,_,_,_,_,_,_,_], []⟩) rfl rfl rfl rfl ?_
    refine W.op (v := .bool false) (fr1 := ⟨[_,_,_,_,_,_,_,_,_,_,_,_,_,_,_,_,_, .bool false, _,_,_,_,_,_,_,_,_,_,_,_,_,_,_,_,_,_,_,_,_,_,_,_,_,_,_,_,_,_,_,_,_,_,_,_,_,_,_,_,_,_,_,_,_,_,_,_,_,_,_,_,_,_,_,_,_,_,_,_,_,_,_,_,_,_,_,_,_,_,_,_,_,_,_,_,_,_,_,_,_,_,_,_,_,_,_,_,_,_,_,_,_,_,_,_,_,_,_,_,_,_,_,_,_,_,_,_,_,_,_], []⟩) rfl rfl rfl rfl ?_
    refine W.op (v := .slice ab b.length cb) (fr1 := ⟨[_,_,_,_,_,_,_,_,_,_,_,_,_,_,_,_,_,_, .slice ab b.length cb, _,_,_,_,_,_,_,_,_,_,_,_,_,_,_,_,_,_,_,_,_,_,_,_,_,_,_,_,_,_,_,_,_,_,_,_,_,_,_,_,_,_,_,_,_,_,_,_,_,_,_,_,_,_,_,_,_,_,_,_,_,_,_,_,_,_,_,_,_,_,_,_,_,_,_,_,_,_,_,_,_,_,_,_,_,_,_,_,_,_,_,_,_,_,_,_,_,_,_,_,_,_,_,_,_,_,_,_,_,_], []⟩) rfl rfl rfl rfl ?_
    by_cases h5 : FR b
    · skip
      refine W.call (ar := [.slice ab b.length cb]) (X := .bool true) (fr1 := ⟨[_,_,_,_,_,_,_,_,_,_,_,_,_,_,_,_,_,_,_, .bool true, _,_,_,_,_,_,_,_,_,_,_,_,_,_,_,_,_,_,_,_,_,_,_,_,_,_,_,_,_,_,_,_,_,_,_,_,_,_,_,_,_,_,_,_,_,_,_,_,_,_,_,_,_,_,_,_,_,_,_,_,_,_,_,_,_,_,_,_,_,_,_,_,_,_,_,_,_,_,_,_,_,_,_,_,_,_,_,_,_,_,_,_,_,_,_,_,_,_,_,_,_,_,_,_,_,_,_,_,_], []⟩) hO3 rfl rfl rfl rfl ((c49 _ _ _ _ _ _ _ _ Kb _ (Hb.own hO3)).mono fun v _ _ h => h.trans (congrArg Value.bool (decide_eq_true h5))) rfl ?_
      intro s6 hO7 hS8
      refine W.op (v := .bool false) (fr1 := ⟨[_,_,_,_,_,_,_,_,_,_,_,_,_,_,_,_,_,_,_,_, .bool false, _,_,_,_,_,_,_,_,_,_,_,_,_,_,_,_,_,_,_,_,_,_,_,_,_,_,_,_,_,_,_,_,_,_,_,_,_,_,_,_,_,_,_,_,_,_,_,_,_,_,_,_,_,_,_,_,_,_,_,_,_,_,_,_,_,_,_,_,_,_,_,_,_,_,_,_,_,_,_,_,_,_,_,_,_,_,_,_,_,_,_,_,_,_,_,_,_,_,_,_,_,_,_,_,_,_,_,_], []⟩) rfl rfl rfl rfl ?_
      refine W.op (v := .bool false) (fr1 := ⟨[_,_,_,_,_,_,_,_,_,_,_,_,_,_,_,_,_,_,_,_,_, .bool false, _,_,_,_,_,_,_,_,_,_,_,_,_,_,_,_,_,_,_,_,_,_,_,_,_,_,_,_,_,_,_,_,_,_,_,_,_,_,_,_,_,_,_,_,_,_,_,_,_,_,_,_,_,_,_,_,_,_,_,_,_,_,_,_,_,_,_,_,_,_,_,_,_,_,_,_,_,_,_,_,_,_,_,_,_,_,_,_,_,_,_,_,_,_,_,_,_,_,_,_,_,_,_,_,_,_,_], []⟩) rfl rfl rfl rfl ?_
      refine EndsOps.nil ?_
      refine Ends.condF rfl ?_
      refine Ends.skip ?_
      refine Ends.seq ?_
      refine Ends.seq ?_
      refine Ends.region ?_
      refine W.op (v := .slice aa a.length ca) (fr1 := ⟨[_,_,_,_,_,_,_,_,_,_,_,_,_,_,_,_,_,_,_,_,_,_, .slice aa a.length ca, _,_,_,_,_,_,_,_,_,_,_,_,_,_,_,_,_,_,_,_,_,_,_,_,_,_,_,_,_,_,_,_,_,_,_,_,_,_,_,_,_,_,_,_,_,_,_,_,_,_,_,_,_,_,_,_,_,_,_,_,_,_,_,_,_,_,_,_,_,_,_,_,_,_,_,_,_,_,_,_,_,_,_,_,_,_,_,_,_,_,_,_,_,_,_,_,_,_,_,_,_,_,_,_,_,_], []⟩) rfl rfl rfl rfl ?_
      refine W.op (v := .int .i64 ((a.length : Nat) : Int)) (fr1 := ⟨[_,_,_,_,_,_,_,_,_,_,_,_,_,_,_,_,_,_,_,_,_,_,_, .int .i64 ((a.length : Nat) : Int), _,_,_,_,_,_,_,_,_,_,_,_,_,_,_,_,_,_,_,_,_,_,_,_,_,_,_,_,_,_,_,_,_,_,_,_,_,_,_,_,_,_,_,_,_,_,_,_,_,_,_,_,_,_,_,_,_,_,_,_,_,_,_,_,_,_,_,_,_,_,_,_,_,_,_,_,_,_,_,_,_,_,_,_,_,_,_,_,_,_,_,_,_,_,_,_,_,_,_,_,_,_,_,_,_], []⟩) rfl rfl rfl rfl ?_
      refine W.op (v := .slice ab b.length cb) (fr1 := ⟨[_,_,_,_,_,_,_,_,_,_,_,_,_,_,_,_,_,_,_,_,_,_,_,_, .slice ab b.length cb, _,_,_,_,_,_,_,_,_,_,_,_,_,_,_,_,_,_,_,_,_,_,_,_,_,_,_,_,_,_,_,_,_,_,_,_,_,_,_,_,_,_,_,_,_,_,_,_,_,_,_,_,_,_,_,_,_,_,_,_,_,_,_,_,_,_,_,_,_,_,_,_,_,_,_,_,_,_,_,_,_,_,_,_,_,_,_,_,_,_,_,_,_,_,_,_,_,_,_,_,_,_,_,_], []⟩) rfl rfl rfl rfl ?_
      refine W.op (v := .int .i64 ((b.length : Nat) : Int)) (fr1 := ⟨[_,_,_,_,_,_,_,_,_,_,_,_,_,_,_,_,_,_,_,_,_,_,_,_,_, .int .i64 ((b.length : Nat) : Int), _,_,_,_,_,_,_,_,_,_,_,_,_,_,_,_,_,_,_,_,_,_,_,_,_,_,_,_,_,_,_,_,_,_,_,_,_,_,_,_,_,_,_,_,_,_,_,_,_,_,_,_,_,_,_,_,_,_,_,_,_,_,_,_,_,_,_,_,_,_,_,_,_,_,_,_,_,_,_,_,_,_,_,_,_,_,_,_,_,_,_,_,_,_,_,_,_,_,_,_,_,_,_], []⟩) rfl rfl rfl rfl ?_
      by_cases h9 : ((a.length : Nat) : Int) = ((b.length : Nat) : Int)
      · skip
        refine W.op (v := .bool false) (fr1 := ⟨[_,_,_,_,_,_,_,_,_,_,_,_,_,_,_,_,_,_,_,_,_,_,_,_,_,_, .bool false, _,_,_,_,_,_,_,_,_,_,_,_,_,_,_,_,_,_,_,_,_,_,_,_,_,_,_,_,_,_,_,_,_,_,_,_,_,_,_,_,_,_,_,_,_,_,_,_,_,_,_,_,_,_,_,_,_,_,_,_,_,_,_,_,_,_,_,_,_,_,_,_,_,_,_,_,_,_,_,_,_,_,_,_,_,_,_,_,_,_,_,_,_,_,_,_,_,_,_,_,_,_], []⟩) rfl (p_bin (neF h9)) rfl rfl ?_
        refine EndsOps.nil ?_
        refine Ends.condF rfl ?_
        refine Ends.skip ?_
        refine Ends.seq ?_
        refine Ends.seq ?_
        refine Ends.region ?_
        refine W.op (v := .int .i64 0) (fr1 := ⟨[_,_,_,_,_,_, .int .i64 0, _,_,_,_,_,_,_,_,_,_,_,_,_,_,_,_,_,_,_,_,_,_,_,_,_,_,_,_,_,_,_,_,_,_,_,_,_,_,_,_,_,_,_,_,_,_,_,_,_,_,_,_,_,_,_,_,_,_,_,_,_,_,_,_,_,_,_,_,_,_,_,_,_,_,_,_,_,_,_,_,_,_,_,_,_,_,_,_,_,_,_,_,_,_,_,_,_,_,_,_,_,_,_,_,_,_,_,_,_,_,_,_,_,_,_,_,_,_,_,_,_,_], []⟩) rfl rfl rfl rfl ?_
        refine EndsOps.nil ?_
        refine W.block ?_
        refine Ends.loopInv (fun d fr s1 => ∃ (i0 : Nat) (j4 j5 j27 j28 j29 j30 j31 j32 j33 j34 j35 j36 j37 j38 j39 j40 j41 j42 j43 : Value), fr = ⟨[.slice aa a.length ca, .slice ab b.length cb, undef, undef, j4, j5, .int .i64 ((i0 : Nat) : Int), undef, undef, undef, undef, undef, undef, undef, .slice aa a.length ca, .bool true, .bool false, .bool false, .slice ab b.length cb, .bool true, .bool false, .bool false, .slice aa a.length ca, .int .i64 ((a.length : Nat) : Int), .slice ab b.length cb, .int .i64 ((b.length : Nat) : Int), .bool false, j27, j28, j29, j30, j31, j32, j33, j34, j35, j36, j37, j38, j39, j40, j41, j42, j43, undef, undef, undef, undef, undef, undef, undef, undef, undef, undef, undef, undef, undef, undef, undef, undef, undef, undef, undef, undef, undef, undef, undef, undef, undef, undef, undef, undef, undef, undef, undef, undef, undef, undef, undef, undef, undef, undef, undef, undef, undef, undef, undef, undef, undef, undef, undef, undef, undef, undef, undef, undef, undef, undef, undef, undef, undef, undef, undef, undef, undef, undef, undef, undef, undef, undef, undef, undef, undef, undef, undef, undef, undef, undef, undef, undef, undef, undef, undef, undef, undef, undef, undef, undef, undef], []⟩ ∧ Own s s1 ∧ d = a.length - i0 ∧ (i0 ≤ a.length) ∧ (∀ (k : Nat), k < i0 → ∀ (f g : Fl), a[k]? = some f → b[k]? = some g → B f.nm = B g.nm)) ?_ _ _ _ ⟨0, _, _, _, _, _, _, _, _, _, _, _, _, _, _, _, _, _, _, _, rfl, hO7, rfl, Nat.zero_le _, fun k hk => absurd hk (Nat.not_lt_zero k)⟩
        rintro d _ s10 ⟨i0, j4, j5, j27, j28, j29, j30, j31, j32, j33, j34, j35, j36, j37, j38, j39, j40, j41, j42, j43, rfl, hO11, hd12, hi0, hokN⟩
        refine Ends.seq ?_
        refine Ends.seq ?_
        refine Ends.region ?_
        refine W.op (v := .int .i64 ((i0 : Nat) : Int)) (fr1 := ⟨[_,_,_,_,_,_,_,_,_,_,_,_,_,_,_,_,_,_,_,_,_,_,_,_,_,_,_, .int .i64 ((i0 : Nat) : Int), _,_,_,_,_,_,_,_,_,_,_,_,_,_,_,_,_,_,_,_,_,_,_,_,_,_,_,_,_,_,_,_,_,_,_,_,_,_,_,_,_,_,_,_,_,_,_,_,_,_,_,_,_,_,_,_,_,_,_,_,_,_,_,_,_,_,_,_,_,_,_,_,_,_,_,_,_,_,_,_,_,_,_,_,_,_,_,_,_,_,_,_,_,_,_,_,_,_,_,_,_], []⟩) rfl rfl rfl rfl ?_
        refine W.op (v := .slice aa a.length ca) (fr1 := ⟨[_,_,_,_,_,_,_,_,_,_,_,_,_,_,_,_,_,_,_,_,_,_,_,_,_,_,_,_, .slice aa a.length ca, _,_,_,_,_,_,_,_,_,_,_,_,_,_,_,_,_,_,_,_,_,_,_,_,_,_,_,_,_,_,_,_,_,_,_,_,_,_,_,_,_,_,_,_,_,_,_,_,_,_,_,_,_,_,_,_,_,_,_,_,_,_,_,_,_,_,_,_,_,_,_,_,_,_,_,_,_,_,_,_,_,_,_,_,_,_,_,_,_,_,_,_,_,_,_,_,_,_,_,_], []⟩) rfl rfl rfl rfl ?_
        refine W.op (v := .int .i64 ((a.length : Nat) : Int)) (fr1 := ⟨[_,_,_,_,_,_,_,_,_,_,_,_,_,_,_,_,_,_,_,_,_,_,_,_,_,_,_,_,_, .int .i64 ((a.length : Nat) : Int), _,_,_,_,_,_,_,_,_,_,_,_,_,_,_,_,_,_,_,_,_,_,_,_,_,_,_,_,_,_,_,_,_,_,_,_,_,_,_,_,_,_,_,_,_,_,_,_,_,_,_,_,_,_,_,_,_,_,_,_,_,_,_,_,_,_,_,_,_,_,_,_,_,_,_,_,_,_,_,_,_,_,_,_,_,_,_,_,_,_,_,_,_,_,_,_,_,_,_], []⟩) rfl rfl rfl rfl ?_
        by_cases h13 : ((i0 : Nat) : Int) < ((a.length : Nat) : Int)
        · skip
          refine W.op (v := .bool true) (fr1 := ⟨[_,_,_,_,_,_,_,_,_,_,_,_,_,_,_,_,_,_,_,_,_,_,_,_,_,_,_,_,_,_, .bool true, _,_,_,_,_,_,_,_,_,_,_,_,_,_,_,_,_,_,_,_,_,_,_,_,_,_,_,_,_,_,_,_,_,_,_,_,_,_,_,_,_,_,_,_,_,_,_,_,_,_,_,_,_,_,_,_,_,_,_,_,_,_,_,_,_,_,_,_,_,_,_,_,_,_,_,_,_,_,_,_,_,_,_,_,_,_,_,_,_,_,_,_,_,_,_,_,_,_], []⟩) rfl (p_bin (ltT h13)) rfl rfl ?_
          refine EndsOps.nil ?_
          refine Ends.condT rfl ?_
          refine Ends.skip ?_
          refine Ends.seq ?_
          refine W.block ?_
          refine Ends.seq ?_
          refine Ends.drawW (bef := [0, 0, 3, 7, 15, 0, 0, 96, 224, 480, 1023]) (by kernel_rfl) ?_
          refine D.op (v := .slice aa a.length ca) (fr1 := ⟨[_,_,_,_,_,_,_,_,_,_,_,_,_,_,_,_,_,_,_,_,_,_,_,_,_,_,_,_,_,_,_,_,_, .slice aa a.length ca, _,_,_,_,_,_,_,_,_,_,_,_,_,_,_,_,_,_,_,_,_,_,_,_,_,_,_,_,_,_,_,_,_,_,_,_,_,_,_,_,_,_,_,_,_,_,_,_,_,_,_,_,_,_,_,_,_,_,_,_,_,_,_,_,_,_,_,_,_,_,_,_,_,_,_,_,_,_,_,_,_,_,_,_,_,_,_,_,_,_,_,_,_,_,_], []⟩) rfl rfl rfl rfl rfl ?_
          refine D.op (v := .int .i64 ((i0 : Nat) : Int)) (fr1 := ⟨[_,_,_,_,_,_,_,_,_,_,_,_,_,_,_,_,_,_,_,_,_,_,_,_,_,_,_,_,_,_,_,_,_,_, .int .i64 ((i0 : Nat) : Int), _,_,_,_,_,_,_,_,_,_,_,_,_,_,_,_,_,_,_,_,_,_,_,_,_,_,_,_,_,_,_,_,_,_,_,_,_,_,_,_,_,_,_,_,_,_,_,_,_,_,_,_,_,_,_,_,_,_,_,_,_,_,_,_,_,_,_,_,_,_,_,_,_,_,_,_,_,_,_,_,_,_,_,_,_,_,_,_,_,_,_,_,_,_], []⟩) rfl rfl rfl rfl rfl ?_
          obtain ⟨e14, he15⟩ := ex_at (l := a) (i := i0) (by omega)
          refine D.op (v := .pointer (some ⟨Na, oa + i0 * 2, none⟩)) (fr1 := ⟨[_,_,_,_,_,_,_,_,_,_,_,_,_,_,_,_,_,_,_,_,_,_,_,_,_,_,_,_,_,_,_,_,_,_,_, .pointer (some ⟨Na, oa + i0 * 2, none⟩), _,_,_,_,_,_,_,_,_,_,_,_,_,_,_,_,_,_,_,_,_,_,_,_,_,_,_,_,_,_,_,_,_,_,_,_,_,_,_,_,_,_,_,_,_,_,_,_,_,_,_,_,_,_,_,_,_,_,_,_,_,_,_,_,_,_,_,_,_,_,_,_,_,_,_,_,_,_,_,_,_,_,_,_,_,_,_,_,_,_,_,_,_], []⟩) rfl (p_ix (Sl.ix Ha rfl rfl he15 _)) rfl rfl rfl ?_
          refine D.op (v := .pointer (some ⟨Na, oa + i0 * 2 + 0, none⟩)) (fr1 := ⟨[_,_,_,_,_,_,_,_,_,_,_,_,_,_,_,_,_,_,_,_,_,_,_,_,_,_,_,_,_,_,_,_,_,_,_,_, .pointer (some ⟨Na, oa + i0 * 2 + 0, none⟩), _,_,_,_,_,_,_,_,_,_,_,_,_,_,_,_,_,_,_,_,_,_,_,_,_,_,_,_,_,_,_,_,_,_,_,_,_,_,_,_,_,_,_,_,_,_,_,_,_,_,_,_,_,_,_,_,_,_,_,_,_,_,_,_,_,_,_,_,_,_,_,_,_,_,_,_,_,_,_,_,_,_,_,_,_,_,_,_,_,_,_,_], []⟩) rfl rfl rfl rfl rfl ?_
          refine D.load (v := .string e14.nm) (fr1 := ⟨[_,_,_,_,_,_,_,_,_,_,_,_,_,_,_,_,_,_,_,_,_,_,_,_,_,_,_,_,_,_,_,_,_,_,_,_,_, .string e14.nm, _,_,_,_,_,_,_,_,_,_,_,_,_,_,_,_,_,_,_,_,_,_,_,_,_,_,_,_,_,_,_,_,_,_,_,_,_,_,_,_,_,_,_,_,_,_,_,_,_,_,_,_,_,_,_,_,_,_,_,_,_,_,_,_,_,_,_,_,_,_,_,_,_,_,_,_,_,_,_,_,_,_,_,_,_,_,_,_,_,_,_], []⟩) rfl rfl rfl (fun _ h => by cases h) (fun s1 hg => (p_load1 ⟨hg.trans ((Sl.row' (Ha.own hO11) he15)).get, ((Sl.row' (Ha.own hO11) he15)).lt⟩ rfl rfl rfl ((Ha.own hO11).at (j := 0) he15 rfl))) rfl ?_
          refine D.op (v := .slice ab b.length cb) (fr1 := ⟨[_,_,_,_,_,_,_,_,_,_,_,_,_,_,_,_,_,_,_,_,_,_,_,_,_,_,_,_,_,_,_,_,_,_,_,_,_,_, .slice ab b.length cb, _,_,_,_,_,_,_,_,_,_,_,_,_,_,_,_,_,_,_,_,_,_,_,_,_,_,_,_,_,_,_,_,_,_,_,_,_,_,_,_,_,_,_,_,_,_,_,_,_,_,_,_,_,_,_,_,_,_,_,_,_,_,_,_,_,_,_,_,_,_,_,_,_,_,_,_,_,_,_,_,_,_,_,_,_,_,_,_,_,_], []⟩) rfl rfl rfl rfl rfl ?_
          refine D.op (v := .int .i64 ((i0 : Nat) : Int)) (fr1 := ⟨[_,_,_,_,_,_,_,_,_,_,_,_,_,_,_,_,_,_,_,_,_,_,_,_,_,_,_,_,_,_,_,_,_,_,_,_,_,_,_, .int .i64 ((i0 : Nat) : Int), _,_,_,_,_,_,_,_,_,_,_,_,_,_,_,_,_,_,_,_,_,_,_,_,_,_,_,_,_,_,_,_,_,_,_,_,_,_,_,_,_,_,_,_,_,_,_,_,_,_,_,_,_,_,_,_,_,_,_,_,_,_,_,_,_,_,_,_,_,_,_,_,_,_,_,_,_,_,_,_,_,_,_,_,_,_,_,_,_], []⟩) rfl rfl rfl rfl rfl ?_
          obtain ⟨e16, he17⟩ := ex_at (l := b) (i := i0) (by omega)
          refine D.op (v := .pointer (some ⟨Nb, ob + i0 * 2, none⟩)) (fr1 := ⟨[_,_,_,_,_,_,_,_,_,_,_,_,_,_,_,_,_,_,_,_,_,_,_,_,_,_,_,_,_,_,_,_,_,_,_,_,_,_,_,_, .pointer (some ⟨Nb, ob + i0 * 2, none⟩), _,_,_,_,_,_,_,_,_,_,_,_,_,_,_,_,_,_,_,_,_,_,_,_,_,_,_,_,_,_,_,_,_,_,_,_,_,_,_,_,_,_,_,_,_,_,_,_,_,_,_,_,_,_,_,_,_,_,_,_,_,_,_,_,_,_,_,_,_,_,_,_,_,_,_,_,_,_,_,_,_,_,_,_,_,_,_,_], []⟩) rfl (p_ix (Sl.ix Hb rfl rfl he17 _)) rfl rfl rfl ?_
          refine D.op (v := .pointer (some ⟨Nb, ob + i0 * 2 + 0, none⟩)) (fr1 := ⟨[_,_,_,_,_,_,_,_,_,_,_,_,_,_,_,_,_,_,_,_,_,_,_,_,_,_,_,_,_,_,_,_,_,_,_,_,_,_,_,_,_, .pointer (some ⟨Nb, ob + i0 * 2 + 0, none⟩), _,_,_,_,_,_,_,_,_,_,_,_,_,_,_,_,_,_,_,_,_,_,_,_,_,_,_,_,_,_,_,_,_,_,_,_,_,_,_,_,_,_,_,_,_,_,_,_,_,_,_,_,_,_,_,_,_,_,_,_,_,_,_,_,_,_,_,_,_,_,_,_,_,_,_,_,_,_,_,_,_,_,_,_,_,_,_], []⟩) rfl rfl rfl rfl rfl ?_
          refine D.load (v := .string e16.nm) (fr1 := ⟨[_,_,_,_,_,_,_,_,_,_,_,_,_,_,_,_,_,_,_,_,_,_,_,_,_,_,_,_,_,_,_,_,_,_,_,_,_,_,_,_,_,_, .string e16.nm, _,_,_,_,_,_,_,_,_,_,_,_,_,_,_,_,_,_,_,_,_,_,_,_,_,_,_,_,_,_,_,_,_,_,_,_,_,_,_,_,_,_,_,_,_,_,_,_,_,_,_,_,_,_,_,_,_,_,_,_,_,_,_,_,_,_,_,_,_,_,_,_,_,_,_,_,_,_,_,_,_,_,_,_,_,_], []⟩) rfl rfl rfl (fun _ h => by cases h) (fun s1 hg => (p_load1 ⟨hg.trans ((Sl.row' (Hb.own hO11) he17)).get, ((Sl.row' (Hb.own hO11) he17)).lt⟩ rfl rfl rfl ((Hb.own hO11).at (j := 0) he17 rfl))) rfl ?_
          by_cases h18 : B e14.nm = B e16.nm
          · skip
            refine D.op (v := .bool false) (fr1 := ⟨[_,_,_,_,_,_,_,_,_,_,_,_,_,_,_,_,_,_,_,_,_,_,_,_,_,_,_,_,_,_,_,_,_,_,_,_,_,_,_,_,_,_,_, .bool false, _,_,_,_,_,_,_,_,_,_,_,_,_,_,_,_,_,_,_,_,_,_,_,_,_,_,_,_,_,_,_,_,_,_,_,_,_,_,_,_,_,_,_,_,_,_,_,_,_,_,_,_,_,_,_,_,_,_,_,_,_,_,_,_,_,_,_,_,_,_,_,_,_,_,_,_,_,_,_,_,_,_,_,_,_], []⟩) rfl (p_bin (sneF h18)) rfl rfl rfl ?_
            refine D.nil ?_
            refine Ends.condF rfl ?_
            refine Ends.skip ?_
            refine Ends.region ?_
            refine W.op (v := .int .i64 ((i0 : Nat) : Int)) (fr1 := ⟨[_,_,_,_,_,_,_,_,_,_,_,_,_,_,_,_,_,_,_,_,_,_,_,_,_,_,_,_,_,_,_, .int .i64 ((i0 : Nat) : Int), _,_,_,_,_,_,_,_,_,_,_,_,_,_,_,_,_,_,_,_,_,_,_,_,_,_,_,_,_,_,_,_,_,_,_,_,_,_,_,_,_,_,_,_,_,_,_,_,_,_,_,_,_,_,_,_,_,_,_,_,_,_,_,_,_,_,_,_,_,_,_,_,_,_,_,_,_,_,_,_,_,_,_,_,_,_,_,_,_,_,_,_,_,_,_,_,_], []⟩) rfl rfl rfl rfl ?_
            refine W.op (v := .int .i64 ((i0 + 1 : Nat) : Int)) (fr1 := ⟨[_,_,_,_,_,_,_,_,_,_,_,_,_,_,_,_,_,_,_,_,_,_,_,_,_,_,_,_,_,_,_,_, .int .i64 ((i0 + 1 : Nat) : Int), _,_,_,_,_,_,_,_,_,_,_,_,_,_,_,_,_,_,_,_,_,_,_,_,_,_,_,_,_,_,_,_,_,_,_,_,_,_,_,_,_,_,_,_,_,_,_,_,_,_,_,_,_,_,_,_,_,_,_,_,_,_,_,_,_,_,_,_,_,_,_,_,_,_,_,_,_,_,_,_,_,_,_,_,_,_,_,_,_,_,_,_,_,_,_,_], []⟩) rfl (p_bin (addI (by omega) (by omega) (by omega))) rfl rfl ?_
            refine W.op (v := .int .i64 ((i0 + 1 : Nat) : Int)) (fr1 := ⟨[_,_,_,_,_,_, .int .i64 ((i0 + 1 : Nat) : Int), _,_,_,_,_,_,_,_,_,_,_,_,_,_,_,_,_,_,_,_,_,_,_,_,_,_,_,_,_,_,_,_,_,_,_,_,_,_,_,_,_,_,_,_,_,_,_,_,_,_,_,_,_,_,_,_,_,_,_,_,_,_,_,_,_,_,_,_,_,_,_,_,_,_,_,_,_,_,_,_,_,_,_,_,_,_,_,_,_,_,_,_,_,_,_,_,_,_,_,_,_,_,_,_,_,_,_,_,_,_,_,_,_,_,_,_,_,_,_,_,_,_], []⟩) rfl rfl rfl rfl ?_
            refine EndsOps.nil ?_
            exact ⟨_, (by omega), i0 + 1, _, _, _, _, _, _, _, _, _, _, _, _, _, _, _, _, _, _, _, rfl, hO11, rfl, by omega, (fun k hk f g hf hg => by by_cases hki : k = i0; (subst hki; rw [he15] at hf; rw [he17] at hg; cases hf; cases hg; exact h18); exact hokN k (by omega) f g hf hg)⟩
          · skip
            refine D.op (v := .bool true) (fr1 := ⟨[_,_,_,_,_,_,_,_,_,_,_,_,_,_,_,_,_,_,_,_,_,_,_,_,_,_,_,_,_,_,_,_,_,_,_,_,_,_,_,_,_,_,_, .bool true, _,_,_,_,_,_,_,_,_,_,_,_,_,_,_,_,_,_,_,_,_,_,_,_,_,_,_,_,_,_,_,_,_,_,_,_,_,_,_,_,_,_,_,_,_,_,_,_,_,_,_,_,_,_,_,_,_,_,_,_,_,_,_,_,_,_,_,_,_,_,_,_,_,_,_,_,_,_,_,_,_,_,_,_,_], []⟩) rfl (p_bin (sneT h18)) rfl rfl rfl ?_
            refine D.nil ?_
            refine Ends.condT rfl ?_
            refine Ends.seq ?_
            refine Ends.region ?_
            refine W.op (v := .slice none 0 0) (fr1 := ⟨[_,_,_,_, .slice none 0 0, _,_,_,_,_,_,_,_,_,_,_,_,_,_,_,_,_,_,_,_,_,_,_,_,_,_,_,_,_,_,_,_,_,_,_,_,_,_,_,_,_,_,_,_,_,_,_,_,_,_,_,_,_,_,_,_,_,_,_,_,_,_,_,_,_,_,_,_,_,_,_,_,_,_,_,_,_,_,_,_,_,_,_,_,_,_,_,_,_,_,_,_,_,_,_,_,_,_,_,_,_,_,_,_,_,_,_,_,_,_,_,_,_,_,_,_,_,_,_,_,_,_,_,_], []⟩) rfl rfl rfl rfl ?_
            refine W.op (v := .int .i64 5) (fr1 := ⟨[_,_,_,_,_, .int .i64 5, _,_,_,_,_,_,_,_,_,_,_,_,_,_,_,_,_,_,_,_,_,_,_,_,_,_,_,_,_,_,_,_,_,_,_,_,_,_,_,_,_,_,_,_,_,_,_,_,_,_,_,_,_,_,_,_,_,_,_,_,_,_,_,_,_,_,_,_,_,_,_,_,_,_,_,_,_,_,_,_,_,_,_,_,_,_,_,_,_,_,_,_,_,_,_,_,_,_,_,_,_,_,_,_,_,_,_,_,_,_,_,_,_,_,_,_,_,_,_,_,_,_,_], []⟩) rfl rfl rfl rfl ?_
            refine EndsOps.nil ?_
            refine Ends.ret ?_
            exact ⟨rfl, rfl, hO11, ⟨fun hh => absurd hh.2.2 (fun hn => h18 (hn.2 i0 _ _ he15 he17)), fun hh => absurd ⟨h1, h5⟩ hh, fun _ => rfl⟩⟩
        · skip
          refine W.op (v := .bool false) (fr1 := ⟨[_,_,_,_,_,_,_,_,_,_,_,_,_,_,_,_,_,_,_,_,_,_,_,_,_,_,_,_,_,_, .bool false, _,_,_,_,_,_,_,_,_,_,_,_,_,_,_,_,_,_,_,_,_,_,_,_,_,_,_,_,_,_,_,_,_,_,_,_,_,_,_,_,_,_,_,_,_,_,_,_,_,_,_,_,_,_,_,_,_,_,_,_,_,_,_,_,_,_,_,_,_,_,_,_,_,_,_,_,_,_,_,_,_,_,_,_,_,_,_,_,_,_,_,_,_,_,_,_,_,_], []⟩) rfl (p_bin (ltF h13)) rfl rfl ?_
          refine EndsOps.nil ?_
          refine Ends.condF rfl ?_
          refine Ends.exit ?_
          refine W.outT rfl ?_
          refine Ends.seq ?_
          refine Ends.region ?_
          refine W.op (v := .slice none 0 0) (fr1 := ⟨[_,_,_,_,_,_,_, .slice none 0 0, _,_,_,_,_,_,_,_,_,_,_,_,_,_,_,_,_,_,_,_,_,_,_,_,_,_,_,_,_,_,_,_,_,_,_,_,_,_,_,_,_,_,_,_,_,_,_,_,_,_,_,_,_,_,_,_,_,_,_,_,_,_,_,_,_,_,_,_,_,_,_,_,_,_,_,_,_,_,_,_,_,_,_,_,_,_,_,_,_,_,_,_,_,_,_,_,_,_,_,_,_,_,_,_,_,_,_,_,_,_,_,_,_,_,_,_,_,_,_,_,_], []⟩) rfl rfl rfl rfl ?_
          refine EndsOps.nil ?_
          refine Ends.seq ?_
          refine Ends.seq ?_
          refine Ends.region ?_
          refine W.op (v := .int .i64 0) (fr1 := ⟨[_,_,_,_,_,_,_,_, .int .i64 0, _,_,_,_,_,_,_,_,_,_,_,_,_,_,_,_,_,_,_,_,_,_,_,_,_,_,_,_,_,_,_,_,_,_,_,_,_,_,_,_,_,_,_,_,_,_,_,_,_,_,_,_,_,_,_,_,_,_,_,_,_,_,_,_,_,_,_,_,_,_,_,_,_,_,_,_,_,_,_,_,_,_,_,_,_,_,_,_,_,_,_,_,_,_,_,_,_,_,_,_,_,_,_,_,_,_,_,_,_,_,_,_,_,_,_,_,_,_,_,_], []⟩) rfl rfl rfl rfl ?_
          refine EndsOps.nil ?_
          refine W.block ?_
          have hnm : Named a b := ⟨by omega, fun k f g hf hg => hokN k (by have := (List.getElem?_eq_some_iff.1 hf).1; omega) f g hf hg⟩
          have hlen := hnm.1
          refine Ends.loopJ (fun d jf19 fr s1 => ∃ (i : Nat) (o : List Pv) (v : Value), fr = ⟨[.slice aa a.length ca, .slice ab b.length cb, undef, undef, j4, j5, .int .i64 ((i0 : Nat) : Int), v, .int .i64 ((i : Nat) : Int), (jf19 9), (jf19 10), (jf19 11), (jf19 12), (jf19 13), .slice aa a.length ca, .bool true, .bool false, .bool false, .slice ab b.length cb, .bool true, .bool false, .bool false, .slice aa a.length ca, .int .i64 ((a.length : Nat) : Int), .slice ab b.length cb, .int .i64 ((b.length : Nat) : Int), .bool false, .int .i64 ((i0 : Nat) : Int), .slice aa a.length ca, .int .i64 ((a.length : Nat) : Int), .bool false, j31, j32, j33, j34, j35, j36, j37, j38, j39, j40, j41, j42, j43, (jf19 44), (jf19 45), (jf19 46), (jf19 47), (jf19 48), (jf19 49), (jf19 50), (jf19 51), (jf19 52), (jf19 53), (jf19 54), (jf19 55), (jf19 56), (jf19 57), (jf19 58), (jf19 59), (jf19 60), (jf19 61), (jf19 62), (jf19 63), (jf19 64), (jf19 65), (jf19 66), (jf19 67), (jf19 68), (jf19 69), (jf19 70), (jf19 71), (jf19 72), (jf19 73), (jf19 74), (jf19 75), (jf19 76), (jf19 77), (jf19 78), (jf19 79), (jf19 80), (jf19 81), (jf19 82), (jf19 83), (jf19 84), (jf19 85), (jf19 86), (jf19 87), (jf19 88), (jf19 89), (jf19 90), (jf19 91), (jf19 92), (jf19 93), (jf19 94), (jf19 95), (jf19 96), (jf19 97), (jf19 98), (jf19 99), (jf19 100), (jf19 101), (jf19 102), (jf19 103), (jf19 104), (jf19 105), (jf19 106), (jf19 107), (jf19 108), (jf19 109), (jf19 110), (jf19 111), (jf19 112), (jf19 113), (jf19 114), (jf19 115), (jf19 116), (jf19 117), (jf19 118), (jf19 119), (jf19 120), (jf19 121), (jf19 122), (jf19 123), (jf19 124), (jf19 125), (jf19 126), (jf19 127), undef], []⟩ ∧ Own s s1 ∧ d = a.length - i ∧ (OL Pv.cells 2 119 s.next s1.t s1.next v o) ∧ (i ≤ a.length) ∧ (NE s1.t s1.next o) ∧ (o.map keyP = diffOf (a.take i) (b.take i)) ∧ (o.length ≤ i)) ?_ _ _ _ ⟨0, [], .slice none 0 0, (by kernel_rfl), hO11, rfl, OL.nil, Nat.zero_le _, NE.nil, rfl, Nat.le_refl _⟩
          rintro d jf19 _ s20 ⟨i, o, v, rfl, hO21, hd22, hol23, hi, hne, hkey, hol9⟩
          refine Ends.seq ?_
          refine Ends.seq ?_
          refine Ends.region ?_
          refine W.op (v := .int .i64 ((i : Nat) : Int)) (fr1 := ⟨[_,_,_,_,_,_,_,_,_,_,_,_,_,_,_,_,_,_,_,_,_,_,_,_,_,_,_,_,_,_,_,_,_,_,_,_,_,_,_,_,_,_,_,_, .int .i64 ((i : Nat) : Int), _,_,_,_,_,_,_,_,_,_,_,_,_,_,_,_,_,_,_,_,_,_,_,_,_,_,_,_,_,_,_,_,_,_,_,_,_,_,_,_,_,_,_,_,_,_,_,_,_,_,_,_,_,_,_,_,_,_,_,_,_,_,_,_,_,_,_,_,_,_,_,_,_,_,_,_,_,_,_,_,_,_,_,_], []⟩) rfl rfl rfl rfl ?_
          refine W.op (v := .slice aa a.length ca) (fr1 := ⟨[_,_,_,_,_,_,_,_,_,_,_,_,_,_,_,_,_,_,_,_,_,_,_,_,_,_,_,_,_,_,_,_,_,_,_,_,_,_,_,_,_,_,_,_,_, .slice aa a.length ca, _,_,_,_,_,_,_,_,_,_,_,_,_,_,_,_,_,_,_,_,_,_,_,_,_,_,_,_,_,_,_,_,_,_,_,_,_,_,_,_,_,_,_,_,_,_,_,_,_,_,_,_,_,_,_,_,_,_,_,_,_,_,_,_,_,_,_,_,_,_,_,_,_,_,_,_,_,_,_,_,_,_,_], []⟩) rfl rfl rfl rfl ?_
          refine W.op (v := .int .i64 ((a.length : Nat) : Int)) (fr1 := ⟨[_,_,_,_,_,_,_,_,_,_,_,_,_,_,_,_,_,_,_,_,_,_,_,_,_,_,_,_,_,_,_,_,_,_,_,_,_,_,_,_,_,_,_,_,_,_, .int .i64 ((a.length : Nat) : Int), _,_,_,_,_,_,_,_,_,_,_,_,_,_,_,_,_,_,_,_,_,_,_,_,_,_,_,_,_,_,_,_,_,_,_,_,_,_,_,_,_,_,_,_,_,_,_,_,_,_,_,_,_,_,_,_,_,_,_,_,_,_,_,_,_,_,_,_,_,_,_,_,_,_,_,_,_,_,_,_,_,_], []⟩) rfl rfl rfl rfl ?_
          by_cases h24 : ((i : Nat) : Int) < ((a.length : Nat) : Int)
          · skip
            refine W.op (v := .bool true) (fr1 := ⟨[_,_,_,_,_,_,_,_,_,_,_,_,_,_,_,_,_,_,_,_,_,_,_,_,_,_,_,_,_,_,_,_,_,_,_,_,_,_,_,_,_,_,_,_,_,_,_, .bool true, _,_,_,_,_,_,_,_,_,_,_,_,_,_,_,_,_,_,_,_,_,_,_,_,_,_,_,_,_,_,_,_,_,_,_,_,_,_,_,_,_,_,_,_,_,_,_,_,_,_,_,_,_,_,_,_,_,_,_,_,_,_,_,_,_,_,_,_,_,_,_,_,_,_,_,_,_,_,_,_,_], []⟩) rfl (p_bin (ltT h24)) rfl rfl ?_
            refine EndsOps.nil ?_
            refine Ends.condT rfl ?_
            refine Ends.skip ?_
            refine Ends.seq ?_
            refine W.block ?_
            refine Ends.seq ?_
            refine Ends.drawW (bef := [0, 0, 3, 7, 15, 0, 0, 96, 224, 480, 31, 2047]) (by kernel_rfl) ?_
            refine D.op (v := .slice aa a.length ca) (fr1 := ⟨[_,_,_,_,_,_,_,_,_,_,_,_,_,_,_,_,_,_,_,_,_,_,_,_,_,_,_,_,_,_,_,_,_,_,_,_,_,_,_,_,_,_,_,_,_,_,_,_,_,_, .slice aa a.length ca, _,_,_,_,_,_,_,_,_,_,_,_,_,_,_,_,_,_,_,_,_,_,_,_,_,_,_,_,_,_,_,_,_,_,_,_,_,_,_,_,_,_,_,_,_,_,_,_,_,_,_,_,_,_,_,_,_,_,_,_,_,_,_,_,_,_,_,_,_,_,_,_,_,_,_,_,_,_], []⟩) rfl rfl rfl rfl rfl ?_
            refine D.op (v := .int .i64 ((i : Nat) : Int)) (fr1 := ⟨[_,_,_,_,_,_,_,_,_,_,_,_,_,_,_,_,_,_,_,_,_,_,_,_,_,_,_,_,_,_,_,_,_,_,_,_,_,_,_,_,_,_,_,_,_,_,_,_,_,_,_, .int .i64 ((i : Nat) : Int), _,_,_,_,_,_,_,_,_,_,_,_,_,_,_,_,_,_,_,_,_,_,_,_,_,_,_,_,_,_,_,_,_,_,_,_,_,_,_,_,_,_,_,_,_,_,_,_,_,_,_,_,_,_,_,_,_,_,_,_,_,_,_,_,_,_,_,_,_,_,_,_,_,_,_,_,_], []⟩) rfl rfl rfl rfl rfl ?_
            obtain ⟨e25, he26⟩ := ex_at (l := a) (i := i) (by omega)
            refine D.op (v := .pointer (some ⟨Na, oa + i * 2, none⟩)) (fr1 := ⟨[_,_,_,_,_,_,_,_,_,_,_,_,_,_,_,_,_,_,_,_,_,_,_,_,_,_,_,_,_,_,_,_,_,_,_,_,_,_,_,_,_,_,_,_,_,_,_,_,_,_,_,_, .pointer (some ⟨Na, oa + i * 2, none⟩), _,_,_,_,_,_,_,_,_,_,_,_,_,_,_,_,_,_,_,_,_,_,_,_,_,_,_,_,_,_,_,_,_,_,_,_,_,_,_,_,_,_,_,_,_,_,_,_,_,_,_,_,_,_,_,_,_,_,_,_,_,_,_,_,_,_,_,_,_,_,_,_,_,_,_,_], []⟩) rfl (p_ix (Sl.ix Ha rfl rfl he26 _)) rfl rfl rfl ?_
            refine D.op (v := .pointer (some ⟨Na, oa + i * 2 + 1, none⟩)) (fr1 := ⟨[_,_,_,_,_,_,_,_,_,_,_,_,_,_,_,_,_,_,_,_,_,_,_,_,_,_,_,_,_,_,_,_,_,_,_,_,_,_,_,_,_,_,_,_,_,_,_,_,_,_,_,_,_, .pointer (some ⟨Na, oa + i * 2 + 1, none⟩), _,_,_,_,_,_,_,_,_,_,_,_,_,_,_,_,_,_,_,_,_,_,_,_,_,_,_,_,_,_,_,_,_,_,_,_,_,_,_,_,_,_,_,_,_,_,_,_,_,_,_,_,_,_,_,_,_,_,_,_,_,_,_,_,_,_,_,_,_,_,_,_,_,_,_], []⟩) rfl rfl rfl rfl rfl ?_
            refine D.load (v := .string e25.tx) (fr1 := ⟨[_,_,_,_,_,_,_,_,_,_,_,_,_,_,_,_,_,_,_,_,_,_,_,_,_,_,_,_,_,_,_,_,_,_,_,_,_,_,_,_,_,_,_,_,_,_,_,_,_,_,_,_,_,_, .string e25.tx, _,_,_,_,_,_,_,_,_,_,_,_,_,_,_,_,_,_,_,_,_,_,_,_,_,_,_,_,_,_,_,_,_,_,_,_,_,_,_,_,_,_,_,_,_,_,_,_,_,_,_,_,_,_,_,_,_,_,_,_,_,_,_,_,_,_,_,_,_,_,_,_,_,_], []⟩) rfl rfl rfl (fun _ h => by cases h) (fun s1 hg => (p_load1 ⟨hg.trans ((Sl.row' (Ha.own hO21) he26)).get, ((Sl.row' (Ha.own hO21) he26)).lt⟩ rfl rfl rfl ((Ha.own hO21).at (j := 1) he26 rfl))) rfl ?_
            refine D.op (v := .slice ab b.length cb) (fr1 := ⟨[_,_,_,_,_,_,_,_,_,_,_,_,_,_,_,_,_,_,_,_,_,_,_,_,_,_,_,_,_,_,_,_,_,_,_,_,_,_,_,_,_,_,_,_,_,_,_,_,_,_,_,_,_,_,_, .slice ab b.length cb, _,_,_,_,_,_,_,_,_,_,_,_,_,_,_,_,_,_,_,_,_,_,_,_,_,_,_,_,_,_,_,_,_,_,_,_,_,_,_,_,_,_,_,_,_,_,_,_,_,_,_,_,_,_,_,_,_,_,_,_,_,_,_,_,_,_,_,_,_,_,_,_,_], []⟩) rfl rfl rfl rfl rfl ?_
            refine D.op (v := .int .i64 ((i : Nat) : Int)) (fr1 := ⟨[_,_,_,_,_,_,_,_,_,_,_,_,_,_,_,_,_,_,_,_,_,_,_,_,_,_,_,_,_,_,_,_,_,_,_,_,_,_,_,_,_,_,_,_,_,_,_,_,_,_,_,_,_,_,_,_, .int .i64 ((i : Nat) : Int), _,_,_,_,_,_,_,_,_,_,_,_,_,_,_,_,_,_,_,_,_,_,_,_,_,_,_,_,_,_,_,_,_,_,_,_,_,_,_,_,_,_,_,_,_,_,_,_,_,_,_,_,_,_,_,_,_,_,_,_,_,_,_,_,_,_,_,_,_,_,_,_], []⟩) rfl rfl rfl rfl rfl ?_
            obtain ⟨e27, he28⟩ := ex_at (l := b) (i := i) (by omega)
            refine D.op (v := .pointer (some ⟨Nb, ob + i * 2, none⟩)) (fr1 := ⟨[_,_,_,_,_,_,_,_,_,_,_,_,_,_,_,_,_,_,_,_,_,_,_,_,_,_,_,_,_,_,_,_,_,_,_,_,_,_,_,_,_,_,_,_,_,_,_,_,_,_,_,_,_,_,_,_,_, .pointer (some ⟨Nb, ob + i * 2, none⟩), _,_,_,_,_,_,_,_,_,_,_,_,_,_,_,_,_,_,_,_,_,_,_,_,_,_,_,_,_,_,_,_,_,_,_,_,_,_,_,_,_,_,_,_,_,_,_,_,_,_,_,_,_,_,_,_,_,_,_,_,_,_,_,_,_,_,_,_,_,_,_], []⟩) rfl (p_ix (Sl.ix Hb rfl rfl he28 _)) rfl rfl rfl ?_
            refine D.op (v := .pointer (some ⟨Nb, ob + i * 2 + 1, none⟩)) (fr1 := ⟨[_,_,_,_,_,_,_,_,_,_,_,_,_,_,_,_,_,_,_,_,_,_,_,_,_,_,_,_,_,_,_,_,_,_,_,_,_,_,_,_,_,_,_,_,_,_,_,_,_,_,_,_,_,_,_,_,_,_, .pointer (some ⟨Nb, ob + i * 2 + 1, none⟩), _,_,_,_,_,_,_,_,_,_,_,_,_,_,_,_,_,_,_,_,_,_,_,_,_,_,_,_,_,_,_,_,_,_,_,_,_,_,_,_,_,_,_,_,_,_,_,_,_,_,_,_,_,_,_,_,_,_,_,_,_,_,_,_,_,_,_,_,_,_], []⟩) rfl rfl rfl rfl rfl ?_
            refine D.load (v := .string e27.tx) (fr1 := ⟨[_,_,_,_,_,_,_,_,_,_,_,_,_,_,_,_,_,_,_,_,_,_,_,_,_,_,_,_,_,_,_,_,_,_,_,_,_,_,_,_,_,_,_,_,_,_,_,_,_,_,_,_,_,_,_,_,_,_,_, .string e27.tx, _,_,_,_,_,_,_,_,_,_,_,_,_,_,_,_,_,_,_,_,_,_,_,_,_,_,_,_,_,_,_,_,_,_,_,_,_,_,_,_,_,_,_,_,_,_,_,_,_,_,_,_,_,_,_,_,_,_,_,_,_,_,_,_,_,_,_,_,_], []⟩) rfl rfl rfl (fun _ h => by cases h) (fun s1 hg => (p_load1 ⟨hg.trans ((Sl.row' (Hb.own hO21) he28)).get, ((Sl.row' (Hb.own hO21) he28)).lt⟩ rfl rfl rfl ((Hb.own hO21).at (j := 1) he28 rfl))) rfl ?_
            refine D.op (v := .string e25.tx) (fr1 := ⟨[_,_,_,_,_,_,_,_,_, .string e25.tx, _,_,_,_,_,_,_,_,_,_,_,_,_,_,_,_,_,_,_,_,_,_,_,_,_,_,_,_,_,_,_,_,_,_,_,_,_,_,_,_,_,_,_,_,_,_,_,_,_,_,_,_,_,_,_,_,_,_,_,_,_,_,_,_,_,_,_,_,_,_,_,_,_,_,_,_,_,_,_,_,_,_,_,_,_,_,_,_,_,_,_,_,_,_,_,_,_,_,_,_,_,_,_,_,_,_,_,_,_,_,_,_,_,_,_,_,_,_,_], []⟩) rfl rfl rfl rfl rfl ?_
            refine D.op (v := .string e27.tx) (fr1 := ⟨[_,_,_,_,_,_,_,_,_,_, .string e27.tx, _,_,_,_,_,_,_,_,_,_,_,_,_,_,_,_,_,_,_,_,_,_,_,_,_,_,_,_,_,_,_,_,_,_,_,_,_,_,_,_,_,_,_,_,_,_,_,_,_,_,_,_,_,_,_,_,_,_,_,_,_,_,_,_,_,_,_,_,_,_,_,_,_,_,_,_,_,_,_,_,_,_,_,_,_,_,_,_,_,_,_,_,_,_,_,_,_,_,_,_,_,_,_,_,_,_,_,_,_,_,_,_,_,_,_,_,_,_], []⟩) rfl rfl rfl rfl rfl ?_
            refine D.nil ?_
            refine Ends.seq ?_
            refine Ends.seq ?_
            refine Ends.region ?_
            refine W.op (v := .string e25.tx) (fr1 := ⟨[_,_,_,_,_,_,_,_,_,_,_,_,_,_,_,_,_,_,_,_,_,_,_,_,_,_,_,_,_,_,_,_,_,_,_,_,_,_,_,_,_,_,_,_,_,_,_,_,_,_,_,_,_,_,_,_,_,_,_,_, .string e25.tx, _,_,_,_,_,_,_,_,_,_,_,_,_,_,_,_,_,_,_,_,_,_,_,_,_,_,_,_,_,_,_,_,_,_,_,_,_,_,_,_,_,_,_,_,_,_,_,_,_,_,_,_,_,_,_,_,_,_,_,_,_,_,_,_,_,_,_,_], []⟩) rfl rfl rfl rfl ?_
            refine W.op (v := .string e27.tx) (fr1 := ⟨[_,_,_,_,_,_,_,_,_,_,_,_,_,_,_,_,_,_,_,_,_,_,_,_,_,_,_,_,_,_,_,_,_,_,_,_,_,_,_,_,_,_,_,_,_,_,_,_,_,_,_,_,_,_,_,_,_,_,_,_,_, .string e27.tx, _,_,_,_,_,_,_,_,_,_,_,_,_,_,_,_,_,_,_,_,_,_,_,_,_,_,_,_,_,_,_,_,_,_,_,_,_,_,_,_,_,_,_,_,_,_,_,_,_,_,_,_,_,_,_,_,_,_,_,_,_,_,_,_,_,_,_], []⟩) rfl rfl rfl rfl ?_
            by_cases h29 : B e25.tx = B e27.tx
            · skip
              refine W.op (v := .bool true) (fr1 := ⟨[_,_,_,_,_,_,_,_,_,_,_,_,_,_,_,_,_,_,_,_,_,_,_,_,_,_,_,_,_,_,_,_,_,_,_,_,_,_,_,_,_,_,_,_,_,_,_,_,_,_,_,_,_,_,_,_,_,_,_,_,_,_, .bool true, _,_,_,_,_,_,_,_,_,_,_,_,_,_,_,_,_,_,_,_,_,_,_,_,_,_,_,_,_,_,_,_,_,_,_,_,_,_,_,_,_,_,_,_,_,_,_,_,_,_,_,_,_,_,_,_,_,_,_,_,_,_,_,_,_,_], []⟩) rfl (p_bin (seqT h29)) rfl rfl ?_
              refine EndsOps.nil ?_
              refine Ends.condT rfl ?_
              refine Ends.exit ?_
              refine W.outT rfl ?_
              refine Ends.region ?_
              refine W.op (v := .int .i64 ((i : Nat) : Int)) (fr1 := ⟨[_,_,_,_,_,_,_,_,_,_,_,_,_,_,_,_,_,_,_,_,_,_,_,_,_,_,_,_,_,_,_,_,_,_,_,_,_,_,_,_,_,_,_,_,_,_,_,_, .int .i64 ((i : Nat) : Int), _,_,_,_,_,_,_,_,_,_,_,_,_,_,_,_,_,_,_,_,_,_,_,_,_,_,_,_,_,_,_,_,_,_,_,_,_,_,_,_,_,_,_,_,_,_,_,_,_,_,_,_,_,_,_,_,_,_,_,_,_,_,_,_,_,_,_,_,_,_,_,_,_,_,_,_,_,_,_,_], []⟩) rfl rfl rfl rfl ?_
              refine W.op (v := .int .i64 ((i + 1 : Nat) : Int)) (fr1 := ⟨[_,_,_,_,_,_,_,_,_,_,_,_,_,_,_,_,_,_,_,_,_,_,_,_,_,_,_,_,_,_,_,_,_,_,_,_,_,_,_,_,_,_,_,_,_,_,_,_,_, .int .i64 ((i + 1 : Nat) : Int), _,_,_,_,_,_,_,_,_,_,_,_,_,_,_,_,_,_,_,_,_,_,_,_,_,_,_,_,_,_,_,_,_,_,_,_,_,_,_,_,_,_,_,_,_,_,_,_,_,_,_,_,_,_,_,_,_,_,_,_,_,_,_,_,_,_,_,_,_,_,_,_,_,_,_,_,_,_,_], []⟩) rfl (p_bin (addI (by omega) (by omega) (by omega))) rfl rfl ?_
              refine W.op (v := .int .i64 ((i + 1 : Nat) : Int)) (fr1 := ⟨[_,_,_,_,_,_,_,_, .int .i64 ((i + 1 : Nat) : Int), _,_,_,_,_,_,_,_,_,_,_,_,_,_,_,_,_,_,_,_,_,_,_,_,_,_,_,_,_,_,_,_,_,_,_,_,_,_,_,_,_,_,_,_,_,_,_,_,_,_,_,_,_,_,_,_,_,_,_,_,_,_,_,_,_,_,_,_,_,_,_,_,_,_,_,_,_,_,_,_,_,_,_,_,_,_,_,_,_,_,_,_,_,_,_,_,_,_,_,_,_,_,_,_,_,_,_,_,_,_,_,_,_,_,_,_,_,_,_,_], []⟩) rfl rfl rfl rfl ?_
              refine EndsOps.nil ?_
              exact ⟨_, (by omega), i + 1, o, v, (by kernel_rfl), hO21, rfl, hol23, by omega, hne, (by rw [diffOf_same he26 he28 ⟨hnm.2 i _ _ he26 he28, h29⟩]; exact hkey), (by first | omega | (rw [List.length_append]; simp only [List.length_singleton]; omega))⟩
            · skip
              refine W.op (v := .bool false) (fr1 := ⟨[_,_,_,_,_,_,_,_,_,_,_,_,_,_,_,_,_,_,_,_,_,_,_,_,_,_,_,_,_,_,_,_,_,_,_,_,_,_,_,_,_,_,_,_,_,_,_,_,_,_,_,_,_,_,_,_,_,_,_,_,_,_, .bool false, _,_,_,_,_,_,_,_,_,_,_,_,_,_,_,_,_,_,_,_,_,_,_,_,_,_,_,_,_,_,_,_,_,_,_,_,_,_,_,_,_,_,_,_,_,_,_,_,_,_,_,_,_,_,_,_,_,_,_,_,_,_,_,_,_,_], []⟩) rfl (p_bin (seqF h29)) rfl rfl ?_
              refine EndsOps.nil ?_
              refine Ends.condF rfl ?_
              refine Ends.skip ?_
              refine Ends.seq ?_
              refine Ends.region ?_
              refine W.op (v := .int .i64 0) (fr1 := ⟨[_,_,_,_,_,_,_,_,_,_,_, .int .i64 0, _,_,_,_,_,_,_,_,_,_,_,_,_,_,_,_,_,_,_,_,_,_,_,_,_,_,_,_,_,_,_,_,_,_,_,_,_,_,_,_,_,_,_,_,_,_,_,_,_,_,_,_,_,_,_,_,_,_,_,_,_,_,_,_,_,_,_,_,_,_,_,_,_,_,_,_,_,_,_,_,_,_,_,_,_,_,_,_,_,_,_,_,_,_,_,_,_,_,_,_,_,_,_,_,_,_,_,_,_,_,_,_,_,_,_,_,_], []⟩) rfl rfl rfl rfl ?_
              refine EndsOps.nil ?_
              refine Ends.seq ?_
              have gx := (Ka _ (List.mem_of_getElem? he26)).tx
              have gy := (Kb _ (List.mem_of_getElem? he28)).tx
              refine Ends.cutJ (fun jf30 fr s1 => ∃ (p : Nat) (vA : Value), fr = ⟨[.slice aa a.length ca, .slice ab b.length cb, undef, undef, j4, j5, .int .i64 ((i0 : Nat) : Int), vA, .int .i64 ((i : Nat) : Int), .string e25.tx, .string e27.tx, .int .i64 ((p : Nat) : Int), (jf19 12), (jf19 13), .slice aa a.length ca, .bool true, .bool false, .bool false, .slice ab b.length cb, .bool true, .bool false, .bool false, .slice aa a.length ca, .int .i64 ((a.length : Nat) : Int), .slice ab b.length cb, .int .i64 ((b.length : Nat) : Int), .bool false, .int .i64 ((i0 : Nat) : Int), .slice aa a.length ca, .int .i64 ((a.length : Nat) : Int), .bool false, j31, j32, j33, j34, j35, j36, j37, j38, j39, j40, j41, j42, j43, .int .i64 ((i : Nat) : Int), .slice aa a.length ca, .int .i64 ((a.length : Nat) : Int), .bool true, (jf19 48), (jf19 49), .slice aa a.length ca, .int .i64 ((i : Nat) : Int), .pointer (some ⟨Na, oa + i * 2, none⟩), .pointer (some ⟨Na, oa + i * 2 + 1, none⟩), .string e25.tx, .slice ab b.length cb, .int .i64 ((i : Nat) : Int), .pointer (some ⟨Nb, ob + i * 2, none⟩), .pointer (some ⟨Nb, ob + i * 2 + 1, none⟩), .string e27.tx, .string e25.tx, .string e27.tx, .bool false, (jf30 63), (jf30 64), (jf30 65), (jf30 66), (jf30 67), (jf30 68), (jf30 69), (jf30 70), (jf30 71), (jf30 72), (jf30 73), (jf30 74), (jf30 75), (jf30 76), (jf30 77), (jf30 78), (jf30 79), (jf30 80), (jf30 81), (jf30 82), (jf30 83), (jf19 84), (jf19 85), (jf19 86), (jf19 87), (jf19 88), (jf19 89), (jf19 90), (jf19 91), (jf19 92), (jf19 93), (jf19 94), (jf19 95), (jf19 96), (jf19 97), (jf19 98), (jf19 99), (jf19 100), (jf19 101), (jf19 102), (jf19 103), (jf19 104), (jf19 105), (jf19 106), (jf19 107), (jf19 108), (jf19 109), (jf19 110), (jf19 111), (jf19 112), (jf19 113), (jf19 114), (jf19 115), (jf19 116), (jf19 117), (jf19 118), (jf19 119), (jf19 120), (jf19 121), (jf19 122), (jf19 123), (jf19 124), (jf19 125), (jf19 126), (jf19 127), undef], []⟩ ∧ Own s s1 ∧ (OL Pv.cells 2 119 s.next s1.t s1.next vA o) ∧ (comL (B e25.tx) (B e27.tx) = p) ∧ (NE s1.t s1.next o)) ?_ ?_
              · skip
                refine W.block ?_
                refine Ends.loopJ (fun d jf31 fr s1 => ∃ (p : Nat) (v2 : Value), fr = ⟨[.slice aa a.length ca, .slice ab b.length cb, undef, undef, j4, j5, .int .i64 ((i0 : Nat) : Int), v2, .int .i64 ((i : Nat) : Int), .string e25.tx, .string e27.tx, .int .i64 ((p : Nat) : Int), (jf19 12), (jf19 13), .slice aa a.length ca, .bool true, .bool false, .bool false, .slice ab b.length cb, .bool true, .bool false, .bool false, .slice aa a.length ca, .int .i64 ((a.length : Nat) : Int), .slice ab b.length cb, .int .i64 ((b.length : Nat) : Int), .bool false, .int .i64 ((i0 : Nat) : Int), .slice aa a.length ca, .int .i64 ((a.length : Nat) : Int), .bool false, j31, j32, j33, j34, j35, j36, j37, j38, j39, j40, j41, j42, j43, .int .i64 ((i : Nat) : Int), .slice aa a.length ca, .int .i64 ((a.length : Nat) : Int), .bool true, (jf19 48), (jf19 49), .slice aa a.length ca, .int .i64 ((i : Nat) : Int), .pointer (some ⟨Na, oa + i * 2, none⟩), .pointer (some ⟨Na, oa + i * 2 + 1, none⟩), .string e25.tx, .slice ab b.length cb, .int .i64 ((i : Nat) : Int), .pointer (some ⟨Nb, ob + i * 2, none⟩), .pointer (some ⟨Nb, ob + i * 2 + 1, none⟩), .string e27.tx, .string e25.tx, .string e27.tx, .bool false, (jf31 63), (jf31 64), (jf31 65), (jf31 66), (jf31 67), (jf31 68), (jf31 69), (jf31 70), (jf31 71), (jf31 72), (jf31 73), (jf31 74), (jf31 75), (jf31 76), (jf31 77), (jf31 78), (jf31 79), (jf31 80), (jf31 81), (jf31 82), (jf31 83), (jf19 84), (jf19 85), (jf19 86), (jf19 87), (jf19 88), (jf19 89), (jf19 90), (jf19 91), (jf19 92), (jf19 93), (jf19 94), (jf19 95), (jf19 96), (jf19 97), (jf19 98), (jf19 99), (jf19 100), (jf19 101), (jf19 102), (jf19 103), (jf19 104), (jf19 105), (jf19 106), (jf19 107), (jf19 108), (jf19 109), (jf19 110), (jf19 111), (jf19 112), (jf19 113), (jf19 114), (jf19 115), (jf19 116), (jf19 117), (jf19 118), (jf19 119), (jf19 120), (jf19 121), (jf19 122), (jf19 123), (jf19 124), (jf19 125), (jf19 126), (jf19 127), undef], []⟩ ∧ Own s s1 ∧ d = (B e25.tx).length - p ∧ (OL Pv.cells 2 119 s.next s1.t s1.next v2 o) ∧ (SameTo (B e25.tx) (B e27.tx) p) ∧ (NE s1.t s1.next o)) ?_ _ _ _ ⟨0, v, (by kernel_rfl), hO21, rfl, hol23, SameTo.zero, hne⟩
                rintro d jf31 _ s32 ⟨p, v2, rfl, hO33, hd34, hol35, hs, hne2⟩
                refine Ends.seq ?_
                refine Ends.seq ?_
                refine Ends.drawW (bef := [0, 0, 2, 7, 15, 31, 31, 95, 255, 511, 1023, 2047, 2047, 8191, 2047, 2047, 51199, 131071, 262143]) (by kernel_rfl) ?_
                refine D.op (v := .int .i64 ((p : Nat) : Int)) (fr1 := ⟨[_,_,_,_,_,_,_,_,_,_,_,_,_,_,_,_,_,_,_,_,_,_,_,_,_,_,_,_,_,_,_,_,_,_,_,_,_,_,_,_,_,_,_,_,_,_,_,_,_,_,_,_,_,_,_,_,_,_,_,_,_,_,_, .int .i64 ((p : Nat) : Int), _,_,_,_,_,_,_,_,_,_,_,_,_,_,_,_,_,_,_,_,_,_,_,_,_,_,_,_,_,_,_,_,_,_,_,_,_,_,_,_,_,_,_,_,_,_,_,_,_,_,_,_,_,_,_,_,_,_,_,_,_,_,_,_,_], []⟩) rfl rfl rfl rfl rfl ?_
                refine D.op (v := .string e25.tx) (fr1 := ⟨[_,_,_,_,_,_,_,_,_,_,_,_,_,_,_,_,_,_,_,_,_,_,_,_,_,_,_,_,_,_,_,_,_,_,_,_,_,_,_,_,_,_,_,_,_,_,_,_,_,_,_,_,_,_,_,_,_,_,_,_,_,_,_,_, .string e25.tx, _,_,_,_,_,_,_,_,_,_,_,_,_,_,_,_,_,_,_,_,_,_,_,_,_,_,_,_,_,_,_,_,_,_,_,_,_,_,_,_,_,_,_,_,_,_,_,_,_,_,_,_,_,_,_,_,_,_,_,_,_,_,_,_], []⟩) rfl rfl rfl rfl rfl ?_
                refine D.op (v := .int .i64 (((B e25.tx).length : Nat) : Int)) (fr1 := ⟨[_,_,_,_,_,_,_,_,_,_,_,_,_,_,_,_,_,_,_,_,_,_,_,_,_,_,_,_,_,_,_,_,_,_,_,_,_,_,_,_,_,_,_,_,_,_,_,_,_,_,_,_,_,_,_,_,_,_,_,_,_,_,_,_,_, .int .i64 (((B e25.tx).length : Nat) : Int), _,_,_,_,_,_,_,_,_,_,_,_,_,_,_,_,_,_,_,_,_,_,_,_,_,_,_,_,_,_,_,_,_,_,_,_,_,_,_,_,_,_,_,_,_,_,_,_,_,_,_,_,_,_,_,_,_,_,_,_,_,_,_], []⟩) rfl rfl rfl rfl rfl ?_
                by_cases h36 : ((p : Nat) : Int) < (((B e25.tx).length : Nat) : Int)
                · skip
                  refine D.op (v := .bool true) (fr1 := ⟨[_,_,_,_,_,_,_,_,_,_,_,_,_,_,_,_,_,_,_,_,_,_,_,_,_,_,_,_,_,_,_,_,_,_,_,_,_,_,_,_,_,_,_,_,_,_,_,_,_,_,_,_,_,_,_,_,_,_,_,_,_,_,_,_,_,_, .bool true, _,_,_,_,_,_,_,_,_,_,_,_,_,_,_,_,_,_,_,_,_,_,_,_,_,_,_,_,_,_,_,_,_,_,_,_,_,_,_,_,_,_,_,_,_,_,_,_,_,_,_,_,_,_,_,_,_,_,_,_,_,_], []⟩) rfl (p_bin (ltT h36)) rfl rfl rfl ?_
                  refine D.op (v := .bool true) (fr1 := ⟨[_,_,_,_,_,_,_,_,_,_,_,_,_,_,_,_,_,_,_,_,_,_,_,_,_,_,_,_,_,_,_,_,_,_,_,_,_,_,_,_,_,_,_,_,_,_,_,_,_,_,_,_,_,_,_,_,_,_,_,_,_,_,_,_,_,_,_, .bool true, _,_,_,_,_,_,_,_,_,_,_,_,_,_,_,_,_,_,_,_,_,_,_,_,_,_,_,_,_,_,_,_,_,_,_,_,_,_,_,_,_,_,_,_,_,_,_,_,_,_,_,_,_,_,_,_,_,_,_,_,_], []⟩) rfl rfl rfl rfl rfl ?_
                  refine D.op (v := .int .i64 ((p : Nat) : Int)) (fr1 := ⟨[_,_,_,_,_,_,_,_,_,_,_,_,_,_,_,_,_,_,_,_,_,_,_,_,_,_,_,_,_,_,_,_,_,_,_,_,_,_,_,_,_,_,_,_,_,_,_,_,_,_,_,_,_,_,_,_,_,_,_,_,_,_,_,_,_,_,_,_, .int .i64 ((p : Nat) : Int), _,_,_,_,_,_,_,_,_,_,_,_,_,_,_,_,_,_,_,_,_,_,_,_,_,_,_,_,_,_,_,_,_,_,_,_,_,_,_,_,_,_,_,_,_,_,_,_,_,_,_,_,_,_,_,_,_,_,_,_], []⟩) rfl rfl rfl rfl rfl ?_
                  refine D.op (v := .string e27.tx) (fr1 := ⟨[_,_,_,_,_,_,_,_,_,_,_,_,_,_,_,_,_,_,_,_,_,_,_,_,_,_,_,_,_,_,_,_,_,_,_,_,_,_,_,_,_,_,_,_,_,_,_,_,_,_,_,_,_,_,_,_,_,_,_,_,_,_,_,_,_,_,_,_,_, .string e27.tx, _,_,_,_,_,_,_,_,_,_,_,_,_,_,_,_,_,_,_,_,_,_,_,_,_,_,_,_,_,_,_,_,_,_,_,_,_,_,_,_,_,_,_,_,_,_,_,_,_,_,_,_,_,_,_,_,_,_,_], []⟩) rfl rfl rfl rfl rfl ?_
                  refine D.op (v := .int .i64 (((B e27.tx).length : Nat) : Int)) (fr1 := ⟨[_,_,_,_,_,_,_,_,_,_,_,_,_,_,_,_,_,_,_,_,_,_,_,_,_,_,_,_,_,_,_,_,_,_,_,_,_,_,_,_,_,_,_,_,_,_,_,_,_,_,_,_,_,_,_,_,_,_,_,_,_,_,_,_,_,_,_,_,_,_, .int .i64 (((B e27.tx).length : Nat) : Int), _,_,_,_,_,_,_,_,_,_,_,_,_,_,_,_,_,_,_,_,_,_,_,_,_,_,_,_,_,_,_,_,_,_,_,_,_,_,_,_,_,_,_,_,_,_,_,_,_,_,_,_,_,_,_,_,_,_], []⟩) rfl rfl rfl rfl rfl ?_
                  by_cases h37 : ((p : Nat) : Int) < (((B e27.tx).length : Nat) : Int)
                  · skip
                    refine D.op (v := .bool true) (fr1 := ⟨[_,_,_,_,_,_,_,_,_,_,_,_,_,_,_,_,_,_,_,_,_,_,_,_,_,_,_,_,_,_,_,_,_,_,_,_,_,_,_,_,_,_,_,_,_,_,_,_,_,_,_,_,_,_,_,_,_,_,_,_,_,_,_,_,_,_,_,_,_,_,_, .bool true, _,_,_,_,_,_,_,_,_,_,_,_,_,_,_,_,_,_,_,_,_,_,_,_,_,_,_,_,_,_,_,_,_,_,_,_,_,_,_,_,_,_,_,_,_,_,_,_,_,_,_,_,_,_,_,_,_], []⟩) rfl (p_bin (ltT h37)) rfl rfl rfl ?_
                    refine D.op (v := .bool true) (fr1 := ⟨[_,_,_,_,_,_,_,_,_,_,_,_,_,_,_,_,_,_,_,_,_,_,_,_,_,_,_,_,_,_,_,_,_,_,_,_,_,_,_,_,_,_,_,_,_,_,_,_,_,_,_,_,_,_,_,_,_,_,_,_,_,_,_,_,_,_,_,_,_,_,_,_, .bool true, _,_,_,_,_,_,_,_,_,_,_,_,_,_,_,_,_,_,_,_,_,_,_,_,_,_,_,_,_,_,_,_,_,_,_,_,_,_,_,_,_,_,_,_,_,_,_,_,_,_,_,_,_,_,_,_], []⟩) rfl rfl rfl rfl rfl ?_
                    refine D.op (v := .bool true) (fr1 := ⟨[_,_,_,_,_,_,_,_,_,_,_,_,_,_,_,_,_,_,_,_,_,_,_,_,_,_,_,_,_,_,_,_,_,_,_,_,_,_,_,_,_,_,_,_,_,_,_,_,_,_,_,_,_,_,_,_,_,_,_,_,_,_,_,_,_,_,_,_,_,_,_,_,_, .bool true, _,_,_,_,_,_,_,_,_,_,_,_,_,_,_,_,_,_,_,_,_,_,_,_,_,_,_,_,_,_,_,_,_,_,_,_,_,_,_,_,_,_,_,_,_,_,_,_,_,_,_,_,_,_,_], []⟩) rfl rfl rfl rfl rfl ?_
                    refine D.op (v := .string e25.tx) (fr1 := ⟨[_,_,_,_,_,_,_,_,_,_,_,_,_,_,_,_,_,_,_,_,_,_,_,_,_,_,_,_,_,_,_,_,_,_,_,_,_,_,_,_,_,_,_,_,_,_,_,_,_,_,_,_,_,_,_,_,_,_,_,_,_,_,_,_,_,_,_,_,_,_,_,_,_,_, .string e25.tx, _,_,_,_,_,_,_,_,_,_,_,_,_,_,_,_,_,_,_,_,_,_,_,_,_,_,_,_,_,_,_,_,_,_,_,_,_,_,_,_,_,_,_,_,_,_,_,_,_,_,_,_,_,_], []⟩) rfl rfl rfl rfl rfl ?_
                    refine D.op (v := .int .i64 ((p : Nat) : Int)) (fr1 := ⟨[_,_,_,_,_,_,_,_,_,_,_,_,_,_,_,_,_,_,_,_,_,_,_,_,_,_,_,_,_,_,_,_,_,_,_,_,_,_,_,_,_,_,_,_,_,_,_,_,_,_,_,_,_,_,_,_,_,_,_,_,_,_,_,_,_,_,_,_,_,_,_,_,_,_,_, .int .i64 ((p : Nat) : Int), _,_,_,_,_,_,_,_,_,_,_,_,_,_,_,_,_,_,_,_,_,_,_,_,_,_,_,_,_,_,_,_,_,_,_,_,_,_,_,_,_,_,_,_,_,_,_,_,_,_,_,_,_], []⟩) rfl rfl rfl rfl rfl ?_
                    obtain ⟨e38, he39⟩ := ex_at (l := B e25.tx) (i := p) (by omega)
                    refine D.op (v := .int .u8 ((e38.toNat : Nat) : Int)) (fr1 := ⟨[_,_,_,_,_,_,_,_,_,_,_,_,_,_,_,_,_,_,_,_,_,_,_,_,_,_,_,_,_,_,_,_,_,_,_,_,_,_,_,_,_,_,_,_,_,_,_,_,_,_,_,_,_,_,_,_,_,_,_,_,_,_,_,_,_,_,_,_,_,_,_,_,_,_,_,_, .int .u8 ((e38.toNat : Nat) : Int), _,_,_,_,_,_,_,_,_,_,_,_,_,_,_,_,_,_,_,_,_,_,_,_,_,_,_,_,_,_,_,_,_,_,_,_,_,_,_,_,_,_,_,_,_,_,_,_,_,_,_,_], []⟩) rfl (p_idxS rfl rfl rfl he39) rfl rfl rfl ?_
                    refine D.op (v := .string e27.tx) (fr1 := ⟨[_,_,_,_,_,_,_,_,_,_,_,_,_,_,_,_,_,_,_,_,_,_,_,_,_,_,_,_,_,_,_,_,_,_,_,_,_,_,_,_,_,_,_,_,_,_,_,_,_,_,_,_,_,_,_,_,_,_,_,_,_,_,_,_,_,_,_,_,_,_,_,_,_,_,_,_,_, .string e27.tx, _,_,_,_,_,_,_,_,_,_,_,_,_,_,_,_,_,_,_,_,_,_,_,_,_,_,_,_,_,_,_,_,_,_,_,_,_,_,_,_,_,_,_,_,_,_,_,_,_,_,_], []⟩) rfl rfl rfl rfl rfl ?_
                    refine D.op (v := .int .i64 ((p : Nat) : Int)) (fr1 := ⟨[_,_,_,_,_,_,_,_,_,_,_,_,_,_,_,_,_,_,_,_,_,_,_,_,_,_,_,_,_,_,_,_,_,_,_,_,_,_,_,_,_,_,_,_,_,_,_,_,_,_,_,_,_,_,_,_,_,_,_,_,_,_,_,_,_,_,_,_,_,_,_,_,_,_,_,_,_,_, .int .i64 ((p : Nat) : Int), _,_,_,_,_,_,_,_,_,_,_,_,_,_,_,_,_,_,_,_,_,_,_,_,_,_,_,_,_,_,_,_,_,_,_,_,_,_,_,_,_,_,_,_,_,_,_,_,_,_], []⟩) rfl rfl rfl rfl rfl ?_
                    obtain ⟨e40, he41⟩ := ex_at (l := B e27.tx) (i := p) (by omega)
                    refine D.op (v := .int .u8 ((e40.toNat : Nat) : Int)) (fr1 := ⟨[_,_,_,_,_,_,_,_,_,_,_,_,_,_,_,_,_,_,_,_,_,_,_,_,_,_,_,_,_,_,_,_,_,_,_,_,_,_,_,_,_,_,_,_,_,_,_,_,_,_,_,_,_,_,_,_,_,_,_,_,_,_,_,_,_,_,_,_,_,_,_,_,_,_,_,_,_,_,_, .int .u8 ((e40.toNat : Nat) : Int), _,_,_,_,_,_,_,_,_,_,_,_,_,_,_,_,_,_,_,_,_,_,_,_,_,_,_,_,_,_,_,_,_,_,_,_,_,_,_,_,_,_,_,_,_,_,_,_,_], []⟩) rfl (p_idxS rfl rfl rfl he41) rfl rfl rfl ?_
                    by_cases h42 : ((e38.toNat : Nat) : Int) = ((e40.toNat : Nat) : Int)
                    · skip
                      refine D.op (v := .bool true) (fr1 := ⟨[_,_,_,_,_,_,_,_,_,_,_,_,_,_,_,_,_,_,_,_,_,_,_,_,_,_,_,_,_,_,_,_,_,_,_,_,_,_,_,_,_,_,_,_,_,_,_,_,_,_,_,_,_,_,_,_,_,_,_,_,_,_,_,_,_,_,_,_,_,_,_,_,_,_,_,_,_,_,_,_, .bool true, _,_,_,_,_,_,_,_,_,_,_,_,_,_,_,_,_,_,_,_,_,_,_,_,_,_,_,_,_,_,_,_,_,_,_,_,_,_,_,_,_,_,_,_,_,_,_,_], []⟩) rfl (p_bin (eqT h42)) rfl rfl rfl ?_
                      refine D.op (v := .bool true) (fr1 := ⟨[_,_,_,_,_,_,_,_,_,_,_,_,_,_,_,_,_,_,_,_,_,_,_,_,_,_,_,_,_,_,_,_,_,_,_,_,_,_,_,_,_,_,_,_,_,_,_,_,_,_,_,_,_,_,_,_,_,_,_,_,_,_,_,_,_,_,_,_,_,_,_,_,_,_,_,_,_,_,_,_,_, .bool true, _,_,_,_,_,_,_,_,_,_,_,_,_,_,_,_,_,_,_,_,_,_,_,_,_,_,_,_,_,_,_,_,_,_,_,_,_,_,_,_,_,_,_,_,_,_,_], []⟩) rfl rfl rfl rfl rfl ?_
                      refine D.nil ?_
                      refine Ends.condT rfl ?_
                      refine Ends.skip ?_
                      refine W.block ?_
                      refine Ends.region ?_
                      refine W.op (v := .int .i64 ((p : Nat) : Int)) (fr1 := ⟨[_,_,_,_,_,_,_,_,_,_,_,_,_,_,_,_,_,_,_,_,_,_,_,_,_,_,_,_,_,_,_,_,_,_,_,_,_,_,_,_,_,_,_,_,_,_,_,_,_,_,_,_,_,_,_,_,_,_,_,_,_,_,_,_,_,_,_,_,_,_,_,_,_,_,_,_,_,_,_,_,_,_, .int .i64 ((p : Nat) : Int), _,_,_,_,_,_,_,_,_,_,_,_,_,_,_,_,_,_,_,_,_,_,_,_,_,_,_,_,_,_,_,_,_,_,_,_,_,_,_,_,_,_,_,_,_,_], []⟩) rfl rfl rfl rfl ?_
                      refine W.op (v := .int .i64 ((p + 1 : Nat) : Int)) (fr1 := ⟨[_,_,_,_,_,_,_,_,_,_,_,_,_,_,_,_,_,_,_,_,_,_,_,_,_,_,_,_,_,_,_,_,_,_,_,_,_,_,_,_,_,_,_,_,_,_,_,_,_,_,_,_,_,_,_,_,_,_,_,_,_,_,_,_,_,_,_,_,_,_,_,_,_,_,_,_,_,_,_,_,_,_,_, .int .i64 ((p + 1 : Nat) : Int), _,_,_,_,_,_,_,_,_,_,_,_,_,_,_,_,_,_,_,_,_,_,_,_,_,_,_,_,_,_,_,_,_,_,_,_,_,_,_,_,_,_,_,_,_], []⟩) rfl (p_bin (addI (by omega) (by omega) (by omega))) rfl rfl ?_
                      refine W.op (v := .int .i64 ((p + 1 : Nat) : Int)) (fr1 := ⟨[_,_,_,_,_,_,_,_,_,_,_, .int .i64 ((p + 1 : Nat) : Int), _,_,_,_,_,_,_,_,_,_,_,_,_,_,_,_,_,_,_,_,_,_,_,_,_,_,_,_,_,_,_,_,_,_,_,_,_,_,_,_,_,_,_,_,_,_,_,_,_,_,_,_,_,_,_,_,_,_,_,_,_,_,_,_,_,_,_,_,_,_,_,_,_,_,_,_,_,_,_,_,_,_,_,_,_,_,_,_,_,_,_,_,_,_,_,_,_,_,_,_,_,_,_,_,_,_,_,_,_,_,_,_,_,_,_,_,_], []⟩) rfl rfl rfl rfl ?_
                      refine EndsOps.nil ?_
                      exact ⟨_, (by omega), p + 1, v2, (by kernel_rfl), hO33, rfl, hol35, hs.step he39 he41 (byte_inj h42), hne2⟩
                    · skip
                      refine D.op (v := .bool false) (fr1 := ⟨[_,_,_,_,_,_,_,_,_,_,_,_,_,_,_,_,_,_,_,_,_,_,_,_,_,_,_,_,_,_,_,_,_,_,_,_,_,_,_,_,_,_,_,_,_,_,_,_,_,_,_,_,_,_,_,_,_,_,_,_,_,_,_,_,_,_,_,_,_,_,_,_,_,_,_,_,_,_,_,_, .bool false, _,_,_,_,_,_,_,_,_,_,_,_,_,_,_,_,_,_,_,_,_,_,_,_,_,_,_,_,_,_,_,_,_,_,_,_,_,_,_,_,_,_,_,_,_,_,_,_], []⟩) rfl (p_bin (eqF h42)) rfl rfl rfl ?_
                      refine D.op (v := .bool false) (fr1 := ⟨[_,_,_,_,_,_,_,_,_,_,_,_,_,_,_,_,_,_,_,_,_,_,_,_,_,_,_,_,_,_,_,_,_,_,_,_,_,_,_,_,_,_,_,_,_,_,_,_,_,_,_,_,_,_,_,_,_,_,_,_,_,_,_,_,_,_,_,_,_,_,_,_,_,_,_,_,_,_,_,_,_, .bool false, _,_,_,_,_,_,_,_,_,_,_,_,_,_,_,_,_,_,_,_,_,_,_,_,_,_,_,_,_,_,_,_,_,_,_,_,_,_,_,_,_,_,_,_,_,_,_], []⟩) rfl rfl rfl rfl rfl ?_
                      refine D.nil ?_
                      refine Ends.condF rfl ?_
                      refine Ends.exit ?_
                      refine W.outT rfl ?_
                      exact ⟨rfl, p, v2, (by kernel_rfl), hO33, hol35, com_at hs fun a b ha hb => by rw [he39] at ha; rw [he41] at hb; cases ha; cases hb; exact byte_ne h42, hne2⟩
                  · skip
                    refine D.op (v := .bool false) (fr1 := ⟨[_,_,_,_,_,_,_,_,_,_,_,_,_,_,_,_,_,_,_,_,_,_,_,_,_,_,_,_,_,_,_,_,_,_,_,_,_,_,_,_,_,_,_,_,_,_,_,_,_,_,_,_,_,_,_,_,_,_,_,_,_,_,_,_,_,_,_,_,_,_,_, .bool false, _,_,_,_,_,_,_,_,_,_,_,_,_,_,_,_,_,_,_,_,_,_,_,_,_,_,_,_,_,_,_,_,_,_,_,_,_,_,_,_,_,_,_,_,_,_,_,_,_,_,_,_,_,_,_,_,_], []⟩) rfl (p_bin (ltF h37)) rfl rfl rfl ?_
                    refine D.op (v := .bool false) (fr1 := ⟨[_,_,_,_,_,_,_,_,_,_,_,_,_,_,_,_,_,_,_,_,_,_,_,_,_,_,_,_,_,_,_,_,_,_,_,_,_,_,_,_,_,_,_,_,_,_,_,_,_,_,_,_,_,_,_,_,_,_,_,_,_,_,_,_,_,_,_,_,_,_,_,_, .bool false, _,_,_,_,_,_,_,_,_,_,_,_,_,_,_,_,_,_,_,_,_,_,_,_,_,_,_,_,_,_,_,_,_,_,_,_,_,_,_,_,_,_,_,_,_,_,_,_,_,_,_,_,_,_,_,_], []⟩) rfl rfl rfl rfl rfl ?_
                    refine D.op (v := .bool false) (fr1 := ⟨[_,_,_,_,_,_,_,_,_,_,_,_,_,_,_,_,_,_,_,_,_,_,_,_,_,_,_,_,_,_,_,_,_,_,_,_,_,_,_,_,_,_,_,_,_,_,_,_,_,_,_,_,_,_,_,_,_,_,_,_,_,_,_,_,_,_,_,_,_,_,_,_,_, .bool false, _,_,_,_,_,_,_,_,_,_,_,_,_,_,_,_,_,_,_,_,_,_,_,_,_,_,_,_,_,_,_,_,_,_,_,_,_,_,_,_,_,_,_,_,_,_,_,_,_,_,_,_,_,_,_], []⟩) rfl rfl rfl rfl rfl ?_
                    refine D.skip (fr1 := ⟨[_,_,_,_,_,_,_,_,_,_,_,_,_,_,_,_,_,_,_,_,_,_,_,_,_,_,_,_,_,_,_,_,_,_,_,_,_,_,_,_,_,_,_,_,_,_,_,_,_,_,_,_,_,_,_,_,_,_,_,_,_,_,_,_,_,_,_,_,_,_,_,_,_,_, undef, _,_,_,_,_,_,_,_,_,_,_,_,_,_,_,_,_,_,_,_,_,_,_,_,_,_,_,_,_,_,_,_,_,_,_,_,_,_,_,_,_,_,_,_,_,_,_,_,_,_,_,_,_,_], []⟩) rfl rfl ?_
                    refine D.skip (fr1 := ⟨[_,_,_,_,_,_,_,_,_,_,_,_,_,_,_,_,_,_,_,_,_,_,_,_,_,_,_,_,_,_,_,_,_,_,_,_,_,_,_,_,_,_,_,_,_,_,_,_,_,_,_,_,_,_,_,_,_,_,_,_,_,_,_,_,_,_,_,_,_,_,_,_,_,_,_, undef, _,_,_,_,_,_,_,_,_,_,_,_,_,_,_,_,_,_,_,_,_,_,_,_,_,_,_,_,_,_,_,_,_,_,_,_,_,_,_,_,_,_,_,_,_,_,_,_,_,_,_,_,_], []⟩) rfl rfl ?_
                    refine D.skip (fr1 := ⟨[_,_,_,_,_,_,_,_,_,_,_,_,_,_,_,_,_,_,_,_,_,_,_,_,_,_,_,_,_,_,_,_,_,_,_,_,_,_,_,_,_,_,_,_,_,_,_,_,_,_,_,_,_,_,_,_,_,_,_,_,_,_,_,_,_,_,_,_,_,_,_,_,_,_,_,_, undef, _,_,_,_,_,_,_,_,_,_,_,_,_,_,_,_,_,_,_,_,_,_,_,_,_,_,_,_,_,_,_,_,_,_,_,_,_,_,_,_,_,_,_,_,_,_,_,_,_,_,_,_], []⟩) rfl rfl ?_
                    refine D.skip (fr1 := ⟨[_,_,_,_,_,_,_,_,_,_,_,_,_,_,_,_,_,_,_,_,_,_,_,_,_,_,_,_,_,_,_,_,_,_,_,_,_,_,_,_,_,_,_,_,_,_,_,_,_,_,_,_,_,_,_,_,_,_,_,_,_,_,_,_,_,_,_,_,_,_,_,_,_,_,_,_,_, undef, _,_,_,_,_,_,_,_,_,_,_,_,_,_,_,_,_,_,_,_,_,_,_,_,_,_,_,_,_,_,_,_,_,_,_,_,_,_,_,_,_,_,_,_,_,_,_,_,_,_,_], []⟩) rfl rfl ?_
                    refine D.skip (fr1 := ⟨[_,_,_,_,_,_,_,_,_,_,_,_,_,_,_,_,_,_,_,_,_,_,_,_,_,_,_,_,_,_,_,_,_,_,_,_,_,_,_,_,_,_,_,_,_,_,_,_,_,_,_,_,_,_,_,_,_,_,_,_,_,_,_,_,_,_,_,_,_,_,_,_,_,_,_,_,_,_, undef, _,_,_,_,_,_,_,_,_,_,_,_,_,_,_,_,_,_,_,_,_,_,_,_,_,_,_,_,_,_,_,_,_,_,_,_,_,_,_,_,_,_,_,_,_,_,_,_,_,_], []⟩) rfl rfl ?_
                    refine D.skip (fr1 := ⟨[_,_,_,_,_,_,_,_,_,_,_,_,_,_,_,_,_,_,_,_,_,_,_,_,_,_,_,_,_,_,_,_,_,_,_,_,_,_,_,_,_,_,_,_,_,_,_,_,_,_,_,_,_,_,_,_,_,_,_,_,_,_,_,_,_,_,_,_,_,_,_,_,_,_,_,_,_,_,_, undef, _,_,_,_,_,_,_,_,_,_,_,_,_,_,_,_,_,_,_,_,_,_,_,_,_,_,_,_,_,_,_,_,_,_,_,_,_,_,_,_,_,_,_,_,_,_,_,_,_], []⟩) rfl rfl ?_
                    refine D.skip (fr1 := ⟨[_,_,_,_,_,_,_,_,_,_,_,_,_,_,_,_,_,_,_,_,_,_,_,_,_,_,_,_,_,_,_,_,_,_,_,_,_,_,_,_,_,_,_,_,_,_,_,_,_,_,_,_,_,_,_,_,_,_,_,_,_,_,_,_,_,_,_,_,_,_,_,_,_,_,_,_,_,_,_,_, undef, _,_,_,_,_,_,_,_,_,_,_,_,_,_,_,_,_,_,_,_,_,_,_,_,_,_,_,_,_,_,_,_,_,_,_,_,_,_,_,_,_,_,_,_,_,_,_,_], []⟩) rfl rfl ?_
                    refine D.op (v := .bool false) (fr1 := ⟨[_,_,_,_,_,_,_,_,_,_,_,_,_,_,_,_,_,_,_,_,_,_,_,_,_,_,_,_,_,_,_,_,_,_,_,_,_,_,_,_,_,_,_,_,_,_,_,_,_,_,_,_,_,_,_,_,_,_,_,_,_,_,_,_,_,_,_,_,_,_,_,_,_,_,_,_,_,_,_,_,_, .bool false, _,_,_,_,_,_,_,_,_,_,_,_,_,_,_,_,_,_,_,_,_,_,_,_,_,_,_,_,_,_,_,_,_,_,_,_,_,_,_,_,_,_,_,_,_,_,_], []⟩) rfl rfl rfl rfl rfl ?_
                    refine D.nil ?_
                    refine Ends.condF rfl ?_
                    refine Ends.exit ?_
                    refine W.outT rfl ?_
                    exact ⟨rfl, p, v2, (by kernel_rfl), hO33, hol35, com_at hs fun a b ha hb => by have h1 := (List.getElem?_eq_some_iff.1 ha).1; have h2 := (List.getElem?_eq_some_iff.1 hb).1; omega, hne2⟩
                · skip
                  refine D.op (v := .bool false) (fr1 := ⟨[_,_,_,_,_,_,_,_,_,_,_,_,_,_,_,_,_,_,_,_,_,_,_,_,_,_,_,_,_,_,_,_,_,_,_,_,_,_,_,_,_,_,_,_,_,_,_,_,_,_,_,_,_,_,_,_,_,_,_,_,_,_,_,_,_,_, .bool false, _,_,_,_,_,_,_,_,_,_,_,_,_,_,_,_,_,_,_,_,_,_,_,_,_,_,_,_,_,_,_,_,_,_,_,_,_,_,_,_,_,_,_,_,_,_,_,_,_,_,_,_,_,_,_,_,_,_,_,_,_,_], []⟩) rfl (p_bin (ltF h36)) rfl rfl rfl ?_
                  refine D.op (v := .bool false) (fr1 := ⟨[_,_,_,_,_,_,_,_,_,_,_,_,_,_,_,_,_,_,_,_,_,_,_,_,_,_,_,_,_,_,_,_,_,_,_,_,_,_,_,_,_,_,_,_,_,_,_,_,_,_,_,_,_,_,_,_,_,_,_,_,_,_,_,_,_,_,_, .bool false, _,_,_,_,_,_,_,_,_,_,_,_,_,_,_,_,_,_,_,_,_,_,_,_,_,_,_,_,_,_,_,_,_,_,_,_,_,_,_,_,_,_,_,_,_,_,_,_,_,_,_,_,_,_,_,_,_,_,_,_,_], []⟩) rfl rfl rfl rfl rfl ?_
                  refine D.skip (fr1 := ⟨[_,_,_,_,_,_,_,_,_,_,_,_,_,_,_,_,_,_,_,_,_,_,_,_,_,_,_,_,_,_,_,_,_,_,_,_,_,_,_,_,_,_,_,_,_,_,_,_,_,_,_,_,_,_,_,_,_,_,_,_,_,_,_,_,_,_,_,_, undef, _,_,_,_,_,_,_,_,_,_,_,_,_,_,_,_,_,_,_,_,_,_,_,_,_,_,_,_,_,_,_,_,_,_,_,_,_,_,_,_,_,_,_,_,_,_,_,_,_,_,_,_,_,_,_,_,_,_,_,_], []⟩) rfl rfl ?_
                  refine D.skip (fr1 := ⟨[_,_,_,_,_,_,_,_,_,_,_,_,_,_,_,_,_,_,_,_,_,_,_,_,_,_,_,_,_,_,_,_,_,_,_,_,_,_,_,_,_,_,_,_,_,_,_,_,_,_,_,_,_,_,_,_,_,_,_,_,_,_,_,_,_,_,_,_,_, undef, _,_,_,_,_,_,_,_,_,_,_,_,_,_,_,_,_,_,_,_,_,_,_,_,_,_,_,_,_,_,_,_,_,_,_,_,_,_,_,_,_,_,_,_,_,_,_,_,_,_,_,_,_,_,_,_,_,_,_], []⟩) rfl rfl ?_
                  refine D.skip (fr1 := ⟨[_,_,_,_,_,_,_,_,_,_,_,_,_,_,_,_,_,_,_,_,_,_,_,_,_,_,_,_,_,_,_,_,_,_,_,_,_,_,_,_,_,_,_,_,_,_,_,_,_,_,_,_,_,_,_,_,_,_,_,_,_,_,_,_,_,_,_,_,_,_, undef, _,_,_,_,_,_,_,_,_,_,_,_,_,_,_,_,_,_,_,_,_,_,_,_,_,_,_,_,_,_,_,_,_,_,_,_,_,_,_,_,_,_,_,_,_,_,_,_,_,_,_,_,_,_,_,_,_,_], []⟩) rfl rfl ?_
                  refine D.skip (fr1 := ⟨[_,_,_,_,_,_,_,_,_,_,_,_,_,_,_,_,_,_,_,_,_,_,_,_,_,_,_,_,_,_,_,_,_,_,_,_,_,_,_,_,_,_,_,_,_,_,_,_,_,_,_,_,_,_,_,_,_,_,_,_,_,_,_,_,_,_,_,_,_,_,_, undef, _,_,_,_,_,_,_,_,_,_,_,_,_,_,_,_,_,_,_,_,_,_,_,_,_,_,_,_,_,_,_,_,_,_,_,_,_,_,_,_,_,_,_,_,_,_,_,_,_,_,_,_,_,_,_,_,_], []⟩) rfl rfl ?_
                  refine D.op (v := .bool false) (fr1 := ⟨[_,_,_,_,_,_,_,_,_,_,_,_,_,_,_,_,_,_,_,_,_,_,_,_,_,_,_,_,_,_,_,_,_,_,_,_,_,_,_,_,_,_,_,_,_,_,_,_,_,_,_,_,_,_,_,_,_,_,_,_,_,_,_,_,_,_,_,_,_,_,_,_, .bool false, _,_,_,_,_,_,_,_,_,_,_,_,_,_,_,_,_,_,_,_,_,_,_,_,_,_,_,_,_,_,_,_,_,_,_,_,_,_,_,_,_,_,_,_,_,_,_,_,_,_,_,_,_,_,_,_], []⟩) rfl rfl rfl rfl rfl ?_
                  refine D.op (v := .bool false) (fr1 := ⟨[_,_,_,_,_,_,_,_,_,_,_,_,_,_,_,_,_,_,_,_,_,_,_,_,_,_,_,_,_,_,_,_,_,_,_,_,_,_,_,_,_,_,_,_,_,_,_,_,_,_,_,_,_,_,_,_,_,_,_,_,_,_,_,_,_,_,_,_,_,_,_,_,_, .bool false, _,_,_,_,_,_,_,_,_,_,_,_,_,_,_,_,_,_,_,_,_,_,_,_,_,_,_,_,_,_,_,_,_,_,_,_,_,_,_,_,_,_,_,_,_,_,_,_,_,_,_,_,_,_,_], []⟩) rfl rfl rfl rfl rfl ?_
                  refine D.skip (fr1 := ⟨[_,_,_,_,_,_,_,_,_,_,_,_,_,_,_,_,_,_,_,_,_,_,_,_,_,_,_,_,_,_,_,_,_,_,_,_,_,_,_,_,_,_,_,_,_,_,_,_,_,_,_,_,_,_,_,_,_,_,_,_,_,_,_,_,_,_,_,_,_,_,_,_,_,_, undef, _,_,_,_,_,_,_,_,_,_,_,_,_,_,_,_,_,_,_,_,_,_,_,_,_,_,_,_,_,_,_,_,_,_,_,_,_,_,_,_,_,_,_,_,_,_,_,_,_,_,_,_,_,_], []⟩) rfl rfl ?_
                  refine D.skip (fr1 := ⟨[_,_,_,_,_,_,_,_,_,_,_,_,_,_,_,_,_,_,_,_,_,_,_,_,_,_,_,_,_,_,_,_,_,_,_,_,_,_,_,_,_,_,_,_,_,_,_,_,_,_,_,_,_,_,_,_,_,_,_,_,_,_,_,_,_,_,_,_,_,_,_,_,_,_,_, undef, _,_,_,_,_,_,_,_,_,_,_,_,_,_,_,_,_,_,_,_,_,_,_,_,_,_,_,_,_,_,_,_,_,_,_,_,_,_,_,_,_,_,_,_,_,_,_,_,_,_,_,_,_], []⟩) rfl rfl ?_
                  refine D.skip (fr1 := ⟨[_,_,_,_,_,_,_,_,_,_,_,_,_,_,_,_,_,_,_,_,_,_,_,_,_,_,_,_,_,_,_,_,_,_,_,_,_,_,_,_,_,_,_,_,_,_,_,_,_,_,_,_,_,_,_,_,_,_,_,_,_,_,_,_,_,_,_,_,_,_,_,_,_,_,_,_, undef, _,_,_,_,_,_,_,_,_,_,_,_,_,_,_,_,_,_,_,_,_,_,_,_,_,_,_,_,_,_,_,_,_,_,_,_,_,_,_,_,_,_,_,_,_,_,_,_,_,_,_,_], []⟩) rfl rfl ?_
                  refine D.skip (fr1 := ⟨[_,_,_,_,_,_,_,_,_,_,_,_,_,_,_,_,_,_,_,_,_,_,_,_,_,_,_,_,_,_,_,_,_,_,_,_,_,_,_,_,_,_,_,_,_,_,_,_,_,_,_,_,_,_,_,_,_,_,_,_,_,_,_,_,_,_,_,_,_,_,_,_,_,_,_,_,_, undef, _,_,_,_,_,_,_,_,_,_,_,_,_,_,_,_,_,_,_,_,_,_,_,_,_,_,_,_,_,_,_,_,_,_,_,_,_,_,_,_,_,_,_,_,_,_,_,_,_,_,_], []⟩) rfl rfl ?_
                  refine D.skip (fr1 := ⟨[_,_,_,_,_,_,_,_,_,_,_,_,_,_,_,_,_,_,_,_,_,_,_,_,_,_,_,_,_,_,_,_,_,_,_,_,_,_,_,_,_,_,_,_,_,_,_,_,_,_,_,_,_,_,_,_,_,_,_,_,_,_,_,_,_,_,_,_,_,_,_,_,_,_,_,_,_,_, undef, _,_,_,_,_,_,_,_,_,_,_,_,_,_,_,_,_,_,_,_,_,_,_,_,_,_,_,_,_,_,_,_,_,_,_,_,_,_,_,_,_,_,_,_,_,_,_,_,_,_], []⟩) rfl rfl ?_
                  refine D.skip (fr1 := ⟨[_,_,_,_,_,_,_,_,_,_,_,_,_,_,_,_,_,_,_,_,_,_,_,_,_,_,_,_,_,_,_,_,_,_,_,_,_,_,_,_,_,_,_,_,_,_,_,_,_,_,_,_,_,_,_,_,_,_,_,_,_,_,_,_,_,_,_,_,_,_,_,_,_,_,_,_,_,_,_, undef, _,_,_,_,_,_,_,_,_,_,_,_,_,_,_,_,_,_,_,_,_,_,_,_,_,_,_,_,_,_,_,_,_,_,_,_,_,_,_,_,_,_,_,_,_,_,_,_,_], []⟩) rfl rfl ?_
                  refine D.skip (fr1 := ⟨[_,_,_,_,_,_,_,_,_,_,_,_,_,_,_,_,_,_,_,_,_,_,_,_,_,_,_,_,_,_,_,_,_,_,_,_,_,_,_,_,_,_,_,_,_,_,_,_,_,_,_,_,_,_,_,_,_,_,_,_,_,_,_,_,_,_,_,_,_,_,_,_,_,_,_,_,_,_,_,_, undef, _,_,_,_,_,_,_,_,_,_,_,_,_,_,_,_,_,_,_,_,_,_,_,_,_,_,_,_,_,_,_,_,_,_,_,_,_,_,_,_,_,_,_,_,_,_,_,_], []⟩) rfl rfl ?_
                  refine D.op (v := .bool false) (fr1 := ⟨[_,_,_,_,_,_,_,_,_,_,_,_,_,_,_,_,_,_,_,_,_,_,_,_,_,_,_,_,_,_,_,_,_,_,_,_,_,_,_,_,_,_,_,_,_,_,_,_,_,_,_,_,_,_,_,_,_,_,_,_,_,_,_,_,_,_,_,_,_,_,_,_,_,_,_,_,_,_,_,_,_, .bool false, _,_,_,_,_,_,_,_,_,_,_,_,_,_,_,_,_,_,_,_,_,_,_,_,_,_,_,_,_,_,_,_,_,_,_,_,_,_,_,_,_,_,_,_,_,_,_], []⟩) rfl rfl rfl rfl rfl ?_
                  refine D.nil ?_
                  refine Ends.condF rfl ?_
                  refine Ends.exit ?_
                  refine W.outT rfl ?_
                  exact ⟨rfl, p, v2, (by kernel_rfl), hO33, hol35, com_at hs fun a b ha hb => by have h1 := (List.getElem?_eq_some_iff.1 ha).1; have h2 := (List.getElem?_eq_some_iff.1 hb).1; omega, hne2⟩
              rintro jf30 _ s43 ⟨p, vA, rfl, hO44, hol45, hc, hneA⟩
              have hcl := com_le (B e25.tx) (B e27.tx)
              rw [hc] at hcl
              refine Ends.seq ?_
              refine Ends.region ?_
              refine W.op (v := .string e25.tx) (fr1 := ⟨[_,_,_,_,_,_,_,_,_,_,_,_,_,_,_,_,_,_,_,_,_,_,_,_,_,_,_,_,_,_,_,_,_,_,_,_,_,_,_,_,_,_,_,_,_,_,_,_,_,_,_,_,_,_,_,_,_,_,_,_,_,_,_,_,_,_,_,_,_,_,_,_,_,_,_,_,_,_,_,_,_,_,_,_, .string e25.tx, _,_,_,_,_,_,_,_,_,_,_,_,_,_,_,_,_,_,_,_,_,_,_,_,_,_,_,_,_,_,_,_,_,_,_,_,_,_,_,_,_,_,_,_], []⟩) rfl rfl rfl rfl ?_
              refine W.op (v := .int .i64 (((B e25.tx).length : Nat) : Int)) (fr1 := ⟨[_,_,_,_,_,_,_,_,_,_,_,_,_,_,_,_,_,_,_,_,_,_,_,_,_,_,_,_,_,_,_,_,_,_,_,_,_,_,_,_,_,_,_,_,_,_,_,_,_,_,_,_,_,_,_,_,_,_,_,_,_,_,_,_,_,_,_,_,_,_,_,_,_,_,_,_,_,_,_,_,_,_,_,_,_, .int .i64 (((B e25.tx).length : Nat) : Int), _,_,_,_,_,_,_,_,_,_,_,_,_,_,_,_,_,_,_,_,_,_,_,_,_,_,_,_,_,_,_,_,_,_,_,_,_,_,_,_,_,_,_], []⟩) rfl rfl rfl rfl ?_
              refine W.op (v := .string e27.tx) (fr1 := ⟨[_,_,_,_,_,_,_,_,_,_,_,_,_,_,_,_,_,_,_,_,_,_,_,_,_,_,_,_,_,_,_,_,_,_,_,_,_,_,_,_,_,_,_,_,_,_,_,_,_,_,_,_,_,_,_,_,_,_,_,_,_,_,_,_,_,_,_,_,_,_,_,_,_,_,_,_,_,_,_,_,_,_,_,_,_,_, .string e27.tx, _,_,_,_,_,_,_,_,_,_,_,_,_,_,_,_,_,_,_,_,_,_,_,_,_,_,_,_,_,_,_,_,_,_,_,_,_,_,_,_,_,_], []⟩) rfl rfl rfl rfl ?_
              refine W.op (v := .int .i64 (((B e27.tx).length : Nat) : Int)) (fr1 := ⟨[_,_,_,_,_,_,_,_,_,_,_,_,_,_,_,_,_,_,_,_,_,_,_,_,_,_,_,_,_,_,_,_,_,_,_,_,_,_,_,_,_,_,_,_,_,_,_,_,_,_,_,_,_,_,_,_,_,_,_,_,_,_,_,_,_,_,_,_,_,_,_,_,_,_,_,_,_,_,_,_,_,_,_,_,_,_,_, .int .i64 (((B e27.tx).length : Nat) : Int), _,_,_,_,_,_,_,_,_,_,_,_,_,_,_,_,_,_,_,_,_,_,_,_,_,_,_,_,_,_,_,_,_,_,_,_,_,_,_,_,_], []⟩) rfl rfl rfl rfl ?_
              refine W.op (v := .int .i64 (((B e25.tx).length : Nat) : Int)) (fr1 := ⟨[_,_,_,_,_,_,_,_,_,_,_,_, .int .i64 (((B e25.tx).length : Nat) : Int), _,_,_,_,_,_,_,_,_,_,_,_,_,_,_,_,_,_,_,_,_,_,_,_,_,_,_,_,_,_,_,_,_,_,_,_,_,_,_,_,_,_,_,_,_,_,_,_,_,_,_,_,_,_,_,_,_,_,_,_,_,_,_,_,_,_,_,_,_,_,_,_,_,_,_,_,_,_,_,_,_,_,_,_,_,_,_,_,_,_,_,_,_,_,_,_,_,_,_,_,_,_,_,_,_,_,_,_,_,_,_,_,_,_,_,_], []⟩) rfl rfl rfl rfl ?_
              refine W.op (v := .int .i64 (((B e27.tx).length : Nat) : Int)) (fr1 := ⟨[_,_,_,_,_,_,_,_,_,_,_,_,_, .int .i64 (((B e27.tx).length : Nat) : Int), _,_,_,_,_,_,_,_,_,_,_,_,_,_,_,_,_,_,_,_,_,_,_,_,_,_,_,_,_,_,_,_,_,_,_,_,_,_,_,_,_,_,_,_,_,_,_,_,_,_,_,_,_,_,_,_,_,_,_,_,_,_,_,_,_,_,_,_,_,_,_,_,_,_,_,_,_,_,_,_,_,_,_,_,_,_,_,_,_,_,_,_,_,_,_,_,_,_,_,_,_,_,_,_,_,_,_,_,_,_,_,_,_,_,_], []⟩) rfl rfl rfl rfl ?_
              refine EndsOps.nil ?_
              refine Ends.seq ?_
              refine Ends.cutJ (fun jf46 fr s1 => ∃ (m : Nat) (m2 : Nat) (vB : Value), fr = ⟨[.slice aa a.length ca, .slice ab b.length cb, undef, undef, j4, j5, .int .i64 ((i0 : Nat) : Int), vB, .int .i64 ((i : Nat) : Int), .string e25.tx, .string e27.tx, .int .i64 ((p : Nat) : Int), .int .i64 ((m : Nat) : Int), .int .i64 ((m2 : Nat) : Int), .slice aa a.length ca, .bool true, .bool false, .bool false, .slice ab b.length cb, .bool true, .bool false, .bool false, .slice aa a.length ca, .int .i64 ((a.length : Nat) : Int), .slice ab b.length cb, .int .i64 ((b.length : Nat) : Int), .bool false, .int .i64 ((i0 : Nat) : Int), .slice aa a.length ca, .int .i64 ((a.length : Nat) : Int), .bool false, j31, j32, j33, j34, j35, j36, j37, j38, j39, j40, j41, j42, j43, .int .i64 ((i : Nat) : Int), .slice aa a.length ca, .int .i64 ((a.length : Nat) : Int), .bool true, (jf19 48), (jf19 49), .slice aa a.length ca, .int .i64 ((i : Nat) : Int), .pointer (some ⟨Na, oa + i * 2, none⟩), .pointer (some ⟨Na, oa + i * 2 + 1, none⟩), .string e25.tx, .slice ab b.length cb, .int .i64 ((i : Nat) : Int), .pointer (some ⟨Nb, ob + i * 2, none⟩), .pointer (some ⟨Nb, ob + i * 2 + 1, none⟩), .string e27.tx, .string e25.tx, .string e27.tx, .bool false, (jf30 63), (jf30 64), (jf30 65), (jf30 66), (jf30 67), (jf30 68), (jf30 69), (jf30 70), (jf30 71), (jf30 72), (jf30 73), (jf30 74), (jf30 75), (jf30 76), (jf30 77), (jf30 78), (jf30 79), (jf30 80), (jf30 81), (jf30 82), (jf30 83), .string e25.tx, .int .i64 (((B e25.tx).length : Nat) : Int), .string e27.tx, .int .i64 (((B e27.tx).length : Nat) : Int), (jf46 88), (jf46 89), (jf46 90), (jf46 91), (jf46 92), (jf46 93), (jf46 94), (jf46 95), (jf46 96), (jf46 97), (jf46 98), (jf46 99), (jf46 100), (jf46 101), (jf46 102), (jf46 103), (jf46 104), (jf46 105), (jf46 106), (jf46 107), (jf46 108), (jf46 109), (jf46 110), (jf19 111), (jf19 112), (jf19 113), (jf19 114), (jf19 115), (jf19 116), (jf19 117), (jf19 118), (jf19 119), (jf19 120), (jf19 121), (jf19 122), (jf19 123), (jf19 124), (jf19 125), (jf19 126), (jf19 127), undef], []⟩ ∧ Own s s1 ∧ (OL Pv.cells 2 119 s.next s1.t s1.next vB o) ∧ (diffE e25.tx e27.tx = ⟨((p : Nat) : Int), ((m : Nat) : Int), sub e27.tx ((p : Nat) : Int).toNat ((m2 : Nat) : Int).toNat⟩) ∧ (p ≤ m ∧ p ≤ m2) ∧ (m ≤ (B e25.tx).length ∧ m2 ≤ (B e27.tx).length) ∧ (NE s1.t s1.next o)) ?_ ?_
              · skip
                refine W.block ?_
                refine Ends.loopJ (fun d jf47 fr s1 => ∃ (m : Nat) (m2 : Nat) (k : Nat) (v3 : Value), fr = ⟨[.slice aa a.length ca, .slice ab b.length cb, undef, undef, j4, j5, .int .i64 ((i0 : Nat) : Int), v3, .int .i64 ((i : Nat) : Int), .string e25.tx, .string e27.tx, .int .i64 ((p : Nat) : Int), .int .i64 ((m : Nat) : Int), .int .i64 ((m2 : Nat) : Int), .slice aa a.length ca, .bool true, .bool false, .bool false, .slice ab b.length cb, .bool true, .bool false, .bool false, .slice aa a.length ca, .int .i64 ((a.length : Nat) : Int), .slice ab b.length cb, .int .i64 ((b.length : Nat) : Int), .bool false, .int .i64 ((i0 : Nat) : Int), .slice aa a.length ca, .int .i64 ((a.length : Nat) : Int), .bool false, j31, j32, j33, j34, j35, j36, j37, j38, j39, j40, j41, j42, j43, .int .i64 ((i : Nat) : Int), .slice aa a.length ca, .int .i64 ((a.length : Nat) : Int), .bool true, (jf19 48), (jf19 49), .slice aa a.length ca, .int .i64 ((i : Nat) : Int), .pointer (some ⟨Na, oa + i * 2, none⟩), .pointer (some ⟨Na, oa + i * 2 + 1, none⟩), .string e25.tx, .slice ab b.length cb, .int .i64 ((i : Nat) : Int), .pointer (some ⟨Nb, ob + i * 2, none⟩), .pointer (some ⟨Nb, ob + i * 2 + 1, none⟩), .string e27.tx, .string e25.tx, .string e27.tx, .bool false, (jf30 63), (jf30 64), (jf30 65), (jf30 66), (jf30 67), (jf30 68), (jf30 69), (jf30 70), (jf30 71), (jf30 72), (jf30 73), (jf30 74), (jf30 75), (jf30 76), (jf30 77), (jf30 78), (jf30 79), (jf30 80), (jf30 81), (jf30 82), (jf30 83), .string e25.tx, .int .i64 (((B e25.tx).length : Nat) : Int), .string e27.tx, .int .i64 (((B e27.tx).length : Nat) : Int), (jf47 88), (jf47 89), (jf47 90), (jf47 91), (jf47 92), (jf47 93), (jf47 94), (jf47 95), (jf47 96), (jf47 97), (jf47 98), (jf47 99), (jf47 100), (jf47 101), (jf47 102), (jf47 103), (jf47 104), (jf47 105), (jf47 106), (jf47 107), (jf47 108), (jf47 109), (jf47 110), (jf19 111), (jf19 112), (jf19 113), (jf19 114), (jf19 115), (jf19 116), (jf19 117), (jf19 118), (jf19 119), (jf19 120), (jf19 121), (jf19 122), (jf19 123), (jf19 124), (jf19 125), (jf19 126), (jf19 127), undef], []⟩ ∧ Own s s1 ∧ d = m ∧ (OL Pv.cells 2 119 s.next s1.t s1.next v3 o) ∧ (m + k = (B e25.tx).length) ∧ (m2 + k = (B e27.tx).length) ∧ (p ≤ m ∧ p ≤ m2) ∧ (SameTo ((B e25.tx).drop p).reverse ((B e27.tx).drop p).reverse k) ∧ (NE s1.t s1.next o)) ?_ _ _ _ ⟨(B e25.tx).length, (B e27.tx).length, 0, vA, (by kernel_rfl), hO44, rfl, hol45, rfl, rfl, hcl, SameTo.zero, hneA⟩
                rintro d jf47 _ s48 ⟨m, m2, k, v3, rfl, hO49, hd50, hol51, hm, hm2, hpm, hs3, hne3⟩
                refine Ends.seq ?_
                refine Ends.seq ?_
                refine Ends.drawW (bef := [0, 0, 3, 7, 15, 15, 63, 127, 255, 511, 511, 1535, 4095, 511, 511, 16895, 57855, 131071, 262143]) (by kernel_rfl) ?_
                refine D.op (v := .int .i64 ((m : Nat) : Int)) (fr1 := ⟨[_,_,_,_,_,_,_,_,_,_,_,_,_,_,_,_,_,_,_,_,_,_,_,_,_,_,_,_,_,_,_,_,_,_,_,_,_,_,_,_,_,_,_,_,_,_,_,_,_,_,_,_,_,_,_,_,_,_,_,_,_,_,_,_,_,_,_,_,_,_,_,_,_,_,_,_,_,_,_,_,_,_,_,_,_,_,_,_, .int .i64 ((m : Nat) : Int), _,_,_,_,_,_,_,_,_,_,_,_,_,_,_,_,_,_,_,_,_,_,_,_,_,_,_,_,_,_,_,_,_,_,_,_,_,_,_,_], []⟩) rfl rfl rfl rfl rfl ?_
                refine D.op (v := .int .i64 ((p : Nat) : Int)) (fr1 := ⟨[_,_,_,_,_,_,_,_,_,_,_,_,_,_,_,_,_,_,_,_,_,_,_,_,_,_,_,_,_,_,_,_,_,_,_,_,_,_,_,_,_,_,_,_,_,_,_,_,_,_,_,_,_,_,_,_,_,_,_,_,_,_,_,_,_,_,_,_,_,_,_,_,_,_,_,_,_,_,_,_,_,_,_,_,_,_,_,_,_, .int .i64 ((p : Nat) : Int), _,_,_,_,_,_,_,_,_,_,_,_,_,_,_,_,_,_,_,_,_,_,_,_,_,_,_,_,_,_,_,_,_,_,_,_,_,_,_], []⟩) rfl rfl rfl rfl rfl ?_
                by_cases h52 : ((p : Nat) : Int) < ((m : Nat) : Int)
                · skip
                  refine D.op (v := .bool true) (fr1 := ⟨[_,_,_,_,_,_,_,_,_,_,_,_,_,_,_,_,_,_,_,_,_,_,_,_,_,_,_,_,_,_,_,_,_,_,_,_,_,_,_,_,_,_,_,_,_,_,_,_,_,_,_,_,_,_,_,_,_,_,_,_,_,_,_,_,_,_,_,_,_,_,_,_,_,_,_,_,_,_,_,_,_,_,_,_,_,_,_,_,_,_, .bool true, _,_,_,_,_,_,_,_,_,_,_,_,_,_,_,_,_,_,_,_,_,_,_,_,_,_,_,_,_,_,_,_,_,_,_,_,_,_], []⟩) rfl (p_bin (gtT h52)) rfl rfl rfl ?_
                  refine D.op (v := .bool true) (fr1 := ⟨[_,_,_,_,_,_,_,_,_,_,_,_,_,_,_,_,_,_,_,_,_,_,_,_,_,_,_,_,_,_,_,_,_,_,_,_,_,_,_,_,_,_,_,_,_,_,_,_,_,_,_,_,_,_,_,_,_,_,_,_,_,_,_,_,_,_,_,_,_,_,_,_,_,_,_,_,_,_,_,_,_,_,_,_,_,_,_,_,_,_,_, .bool true, _,_,_,_,_,_,_,_,_,_,_,_,_,_,_,_,_,_,_,_,_,_,_,_,_,_,_,_,_,_,_,_,_,_,_,_,_], []⟩) rfl rfl rfl rfl rfl ?_
                  refine D.op (v := .int .i64 ((m2 : Nat) : Int)) (fr1 := ⟨[_,_,_,_,_,_,_,_,_,_,_,_,_,_,_,_,_,_,_,_,_,_,_,_,_,_,_,_,_,_,_,_,_,_,_,_,_,_,_,_,_,_,_,_,_,_,_,_,_,_,_,_,_,_,_,_,_,_,_,_,_,_,_,_,_,_,_,_,_,_,_,_,_,_,_,_,_,_,_,_,_,_,_,_,_,_,_,_,_,_,_,_, .int .i64 ((m2 : Nat) : Int), _,_,_,_,_,_,_,_,_,_,_,_,_,_,_,_,_,_,_,_,_,_,_,_,_,_,_,_,_,_,_,_,_,_,_,_], []⟩) rfl rfl rfl rfl rfl ?_
                  refine D.op (v := .int .i64 ((p : Nat) : Int)) (fr1 := ⟨[_,_,_,_,_,_,_,_,_,_,_,_,_,_,_,_,_,_,_,_,_,_,_,_,_,_,_,_,_,_,_,_,_,_,_,_,_,_,_,_,_,_,_,_,_,_,_,_,_,_,_,_,_,_,_,_,_,_,_,_,_,_,_,_,_,_,_,_,_,_,_,_,_,_,_,_,_,_,_,_,_,_,_,_,_,_,_,_,_,_,_,_,_, .int .i64 ((p : Nat) : Int), _,_,_,_,_,_,_,_,_,_,_,_,_,_,_,_,_,_,_,_,_,_,_,_,_,_,_,_,_,_,_,_,_,_,_], []⟩) rfl rfl rfl rfl rfl ?_
                  by_cases h53 : ((p : Nat) : Int) < ((m2 : Nat) : Int)
                  · skip
                    refine D.op (v := .bool true) (fr1 := ⟨[_,_,_,_,_,_,_,_,_,_,_,_,_,_,_,_,_,_,_,_,_,_,_,_,_,_,_,_,_,_,_,_,_,_,_,_,_,_,_,_,_,_,_,_,_,_,_,_,_,_,_,_,_,_,_,_,_,_,_,_,_,_,_,_,_,_,_,_,_,_,_,_,_,_,_,_,_,_,_,_,_,_,_,_,_,_,_,_,_,_,_,_,_,_, .bool true, _,_,_,_,_,_,_,_,_,_,_,_,_,_,_,_,_,_,_,_,_,_,_,_,_,_,_,_,_,_,_,_,_,_], []⟩) rfl (p_bin (gtT h53)) rfl rfl rfl ?_
                    refine D.op (v := .bool true) (fr1 := ⟨[_,_,_,_,_,_,_,_,_,_,_,_,_,_,_,_,_,_,_,_,_,_,_,_,_,_,_,_,_,_,_,_,_,_,_,_,_,_,_,_,_,_,_,_,_,_,_,_,_,_,_,_,_,_,_,_,_,_,_,_,_,_,_,_,_,_,_,_,_,_,_,_,_,_,_,_,_,_,_,_,_,_,_,_,_,_,_,_,_,_,_,_,_,_,_, .bool true, _,_,_,_,_,_,_,_,_,_,_,_,_,_,_,_,_,_,_,_,_,_,_,_,_,_,_,_,_,_,_,_,_], []⟩) rfl rfl rfl rfl rfl ?_
                    refine D.op (v := .bool true) (fr1 := ⟨[_,_,_,_,_,_,_,_,_,_,_,_,_,_,_,_,_,_,_,_,_,_,_,_,_,_,_,_,_,_,_,_,_,_,_,_,_,_,_,_,_,_,_,_,_,_,_,_,_,_,_,_,_,_,_,_,_,_,_,_,_,_,_,_,_,_,_,_,_,_,_,_,_,_,_,_,_,_,_,_,_,_,_,_,_,_,_,_,_,_,_,_,_,_,_,_, .bool true, _,_,_,_,_,_,_,_,_,_,_,_,_,_,_,_,_,_,_,_,_,_,_,_,_,_,_,_,_,_,_,_], []⟩) rfl rfl rfl rfl rfl ?_
                    refine D.op (v := .string e25.tx) (fr1 := ⟨[_,_,_,_,_,_,_,_,_,_,_,_,_,_,_,_,_,_,_,_,_,_,_,_,_,_,_,_,_,_,_,_,_,_,_,_,_,_,_,_,_,_,_,_,_,_,_,_,_,_,_,_,_,_,_,_,_,_,_,_,_,_,_,_,_,_,_,_,_,_,_,_,_,_,_,_,_,_,_,_,_,_,_,_,_,_,_,_,_,_,_,_,_,_,_,_,_, .string e25.tx, _,_,_,_,_,_,_,_,_,_,_,_,_,_,_,_,_,_,_,_,_,_,_,_,_,_,_,_,_,_,_], []⟩) rfl rfl rfl rfl rfl ?_
                    refine D.op (v := .int .i64 ((m : Nat) : Int)) (fr1 := ⟨[_,_,_,_,_,_,_,_,_,_,_,_,_,_,_,_,_,_,_,_,_,_,_,_,_,_,_,_,_,_,_,_,_,_,_,_,_,_,_,_,_,_,_,_,_,_,_,_,_,_,_,_,_,_,_,_,_,_,_,_,_,_,_,_,_,_,_,_,_,_,_,_,_,_,_,_,_,_,_,_,_,_,_,_,_,_,_,_,_,_,_,_,_,_,_,_,_,_, .int .i64 ((m : Nat) : Int), _,_,_,_,_,_,_,_,_,_,_,_,_,_,_,_,_,_,_,_,_,_,_,_,_,_,_,_,_,_], []⟩) rfl rfl rfl rfl rfl ?_
                    obtain ⟨q54, hq55⟩ : ∃ z0 : Nat, (z0 : Int) = ((m : Nat) : Int) - 1 := ⟨(m - 1), by omega⟩
                    refine D.op (v := .int .i64 ((q54 : Nat) : Int)) (fr1 := ⟨[_,_,_,_,_,_,_,_,_,_,_,_,_,_,_,_,_,_,_,_,_,_,_,_,_,_,_,_,_,_,_,_,_,_,_,_,_,_,_,_,_,_,_,_,_,_,_,_,_,_,_,_,_,_,_,_,_,_,_,_,_,_,_,_,_,_,_,_,_,_,_,_,_,_,_,_,_,_,_,_,_,_,_,_,_,_,_,_,_,_,_,_,_,_,_,_,_,_,_, .int .i64 ((q54 : Nat) : Int), _,_,_,_,_,_,_,_,_,_,_,_,_,_,_,_,_,_,_,_,_,_,_,_,_,_,_,_,_], []⟩) rfl (p_bin (subI (by omega) (by omega) (by omega))) rfl rfl rfl ?_
                    obtain ⟨e56, he57⟩ := ex_at (l := B e25.tx) (i := q54) (by omega)
                    refine D.op (v := .int .u8 ((e56.toNat : Nat) : Int)) (fr1 := ⟨[_,_,_,_,_,_,_,_,_,_,_,_,_,_,_,_,_,_,_,_,_,_,_,_,_,_,_,_,_,_,_,_,_,_,_,_,_,_,_,_,_,_,_,_,_,_,_,_,_,_,_,_,_,_,_,_,_,_,_,_,_,_,_,_,_,_,_,_,_,_,_,_,_,_,_,_,_,_,_,_,_,_,_,_,_,_,_,_,_,_,_,_,_,_,_,_,_,_,_,_, .int .u8 ((e56.toNat : Nat) : Int), _,_,_,_,_,_,_,_,_,_,_,_,_,_,_,_,_,_,_,_,_,_,_,_,_,_,_,_], []⟩) rfl (p_idxS rfl rfl rfl he57) rfl rfl rfl ?_
                    refine D.op (v := .string e27.tx) (fr1 := ⟨[_,_,_,_,_,_,_,_,_,_,_,_,_,_,_,_,_,_,_,_,_,_,_,_,_,_,_,_,_,_,_,_,_,_,_,_,_,_,_,_,_,_,_,_,_,_,_,_,_,_,_,_,_,_,_,_,_,_,_,_,_,_,_,_,_,_,_,_,_,_,_,_,_,_,_,_,_,_,_,_,_,_,_,_,_,_,_,_,_,_,_,_,_,_,_,_,_,_,_,_,_, .string e27.tx, _,_,_,_,_,_,_,_,_,_,_,_,_,_,_,_,_,_,_,_,_,_,_,_,_,_,_], []⟩) rfl rfl rfl rfl rfl ?_
                    refine D.op (v := .int .i64 ((m2 : Nat) : Int)) (fr1 := ⟨[_,_,_,_,_,_,_,_,_,_,_,_,_,_,_,_,_,_,_,_,_,_,_,_,_,_,_,_,_,_,_,_,_,_,_,_,_,_,_,_,_,_,_,_,_,_,_,_,_,_,_,_,_,_,_,_,_,_,_,_,_,_,_,_,_,_,_,_,_,_,_,_,_,_,_,_,_,_,_,_,_,_,_,_,_,_,_,_,_,_,_,_,_,_,_,_,_,_,_,_,_,_, .int .i64 ((m2 : Nat) : Int), _,_,_,_,_,_,_,_,_,_,_,_,_,_,_,_,_,_,_,_,_,_,_,_,_,_], []⟩) rfl rfl rfl rfl rfl ?_
                    obtain ⟨q58, hq59⟩ : ∃ z0 : Nat, (z0 : Int) = ((m2 : Nat) : Int) - 1 := ⟨(m2 - 1), by omega⟩
                    refine D.op (v := .int .i64 ((q58 : Nat) : Int)) (fr1 := ⟨[_,_,_,_,_,_,_,_,_,_,_,_,_,_,_,_,_,_,_,_,_,_,_,_,_,_,_,_,_,_,_,_,_,_,_,_,_,_,_,_,_,_,_,_,_,_,_,_,_,_,_,_,_,_,_,_,_,_,_,_,_,_,_,_,_,_,_,_,_,_,_,_,_,_,_,_,_,_,_,_,_,_,_,_,_,_,_,_,_,_,_,_,_,_,_,_,_,_,_,_,_,_,_, .int .i64 ((q58 : Nat) : Int), _,_,_,_,_,_,_,_,_,_,_,_,_,_,_,_,_,_,_,_,_,_,_,_,_], []⟩) rfl (p_bin (subI (by omega) (by omega) (by omega))) rfl rfl rfl ?_
                    obtain ⟨e60, he61⟩ := ex_at (l := B e27.tx) (i := q58) (by omega)
                    refine D.op (v := .int .u8 ((e60.toNat : Nat) : Int)) (fr1 := ⟨[_,_,_,_,_,_,_,_,_,_,_,_,_,_,_,_,_,_,_,_,_,_,_,_,_,_,_,_,_,_,_,_,_,_,_,_,_,_,_,_,_,_,_,_,_,_,_,_,_,_,_,_,_,_,_,_,_,_,_,_,_,_,_,_,_,_,_,_,_,_,_,_,_,_,_,_,_,_,_,_,_,_,_,_,_,_,_,_,_,_,_,_,_,_,_,_,_,_,_,_,_,_,_,_, .int .u8 ((e60.toNat : Nat) : Int), _,_,_,_,_,_,_,_,_,_,_,_,_,_,_,_,_,_,_,_,_,_,_,_], []⟩) rfl (p_idxS rfl rfl rfl he61) rfl rfl rfl ?_
                    by_cases h62 : ((e56.toNat : Nat) : Int) = ((e60.toNat : Nat) : Int)
                    · skip
                      refine D.op (v := .bool true) (fr1 := ⟨[_,_,_,_,_,_,_,_,_,_,_,_,_,_,_,_,_,_,_,_,_,_,_,_,_,_,_,_,_,_,_,_,_,_,_,_,_,_,_,_,_,_,_,_,_,_,_,_,_,_,_,_,_,_,_,_,_,_,_,_,_,_,_,_,_,_,_,_,_,_,_,_,_,_,_,_,_,_,_,_,_,_,_,_,_,_,_,_,_,_,_,_,_,_,_,_,_,_,_,_,_,_,_,_,_, .bool true, _,_,_,_,_,_,_,_,_,_,_,_,_,_,_,_,_,_,_,_,_,_,_], []⟩) rfl (p_bin (eqT h62)) rfl rfl rfl ?_
                      refine D.op (v := .bool true) (fr1 := ⟨[_,_,_,_,_,_,_,_,_,_,_,_,_,_,_,_,_,_,_,_,_,_,_,_,_,_,_,_,_,_,_,_,_,_,_,_,_,_,_,_,_,_,_,_,_,_,_,_,_,_,_,_,_,_,_,_,_,_,_,_,_,_,_,_,_,_,_,_,_,_,_,_,_,_,_,_,_,_,_,_,_,_,_,_,_,_,_,_,_,_,_,_,_,_,_,_,_,_,_,_,_,_,_,_,_,_, .bool true, _,_,_,_,_,_,_,_,_,_,_,_,_,_,_,_,_,_,_,_,_,_], []⟩) rfl rfl rfl rfl rfl ?_
                      refine D.nil ?_
                      refine Ends.condT rfl ?_
                      refine Ends.skip ?_
                      refine W.block ?_
                      refine Ends.seq ?_
                      refine Ends.region ?_
                      refine W.op (v := .int .i64 ((m : Nat) : Int)) (fr1 := ⟨[_,_,_,_,_,_,_,_,_,_,_,_,_,_,_,_,_,_,_,_,_,_,_,_,_,_,_,_,_,_,_,_,_,_,_,_,_,_,_,_,_,_,_,_,_,_,_,_,_,_,_,_,_,_,_,_,_,_,_,_,_,_,_,_,_,_,_,_,_,_,_,_,_,_,_,_,_,_,_,_,_,_,_,_,_,_,_,_,_,_,_,_,_,_,_,_,_,_,_,_,_,_,_,_,_,_,_, .int .i64 ((m : Nat) : Int), _,_,_,_,_,_,_,_,_,_,_,_,_,_,_,_,_,_,_,_,_], []⟩) rfl rfl rfl rfl ?_
                      refine W.op (v := .int .i64 ((q54 : Nat) : Int)) (fr1 := ⟨[_,_,_,_,_,_,_,_,_,_,_,_,_,_,_,_,_,_,_,_,_,_,_,_,_,_,_,_,_,_,_,_,_,_,_,_,_,_,_,_,_,_,_,_,_,_,_,_,_,_,_,_,_,_,_,_,_,_,_,_,_,_,_,_,_,_,_,_,_,_,_,_,_,_,_,_,_,_,_,_,_,_,_,_,_,_,_,_,_,_,_,_,_,_,_,_,_,_,_,_,_,_,_,_,_,_,_,_, .int .i64 ((q54 : Nat) : Int), _,_,_,_,_,_,_,_,_,_,_,_,_,_,_,_,_,_,_,_], []⟩) rfl (p_bin (subI (by omega) (by omega) (by omega))) rfl rfl ?_
                      refine W.op (v := .int .i64 ((q54 : Nat) : Int)) (fr1 := ⟨[_,_,_,_,_,_,_,_,_,_,_,_, .int .i64 ((q54 : Nat) : Int), _,_,_,_,_,_,_,_,_,_,_,_,_,_,_,_,_,_,_,_,_,_,_,_,_,_,_,_,_,_,_,_,_,_,_,_,_,_,_,_,_,_,_,_,_,_,_,_,_,_,_,_,_,_,_,_,_,_,_,_,_,_,_,_,_,_,_,_,_,_,_,_,_,_,_,_,_,_,_,_,_,_,_,_,_,_,_,_,_,_,_,_,_,_,_,_,_,_,_,_,_,_,_,_,_,_,_,_,_,_,_,_,_,_,_,_], []⟩) rfl rfl rfl rfl ?_
                      refine EndsOps.nil ?_
                      refine Ends.region ?_
                      refine W.op (v := .int .i64 ((m2 : Nat) : Int)) (fr1 := ⟨[_,_,_,_,_,_,_,_,_,_,_,_,_,_,_,_,_,_,_,_,_,_,_,_,_,_,_,_,_,_,_,_,_,_,_,_,_,_,_,_,_,_,_,_,_,_,_,_,_,_,_,_,_,_,_,_,_,_,_,_,_,_,_,_,_,_,_,_,_,_,_,_,_,_,_,_,_,_,_,_,_,_,_,_,_,_,_,_,_,_,_,_,_,_,_,_,_,_,_,_,_,_,_,_,_,_,_,_,_, .int .i64 ((m2 : Nat) : Int), _,_,_,_,_,_,_,_,_,_,_,_,_,_,_,_,_,_,_], []⟩) rfl rfl rfl rfl ?_
                      refine W.op (v := .int .i64 ((q58 : Nat) : Int)) (fr1 := ⟨[_,_,_,_,_,_,_,_,_,_,_,_,_,_,_,_,_,_,_,_,_,_,_,_,_,_,_,_,_,_,_,_,_,_,_,_,_,_,_,_,_,_,_,_,_,_,_,_,_,_,_,_,_,_,_,_,_,_,_,_,_,_,_,_,_,_,_,_,_,_,_,_,_,_,_,_,_,_,_,_,_,_,_,_,_,_,_,_,_,_,_,_,_,_,_,_,_,_,_,_,_,_,_,_,_,_,_,_,_,_, .int .i64 ((q58 : Nat) : Int), _,_,_,_,_,_,_,_,_,_,_,_,_,_,_,_,_,_], []⟩) rfl (p_bin (subI (by omega) (by omega) (by omega))) rfl rfl ?_
                      refine W.op (v := .int .i64 ((q58 : Nat) : Int)) (fr1 := ⟨[_,_,_,_,_,_,_,_,_,_,_,_,_, .int .i64 ((q58 : Nat) : Int), _,_,_,_,_,_,_,_,_,_,_,_,_,_,_,_,_,_,_,_,_,_,_,_,_,_,_,_,_,_,_,_,_,_,_,_,_,_,_,_,_,_,_,_,_,_,_,_,_,_,_,_,_,_,_,_,_,_,_,_,_,_,_,_,_,_,_,_,_,_,_,_,_,_,_,_,_,_,_,_,_,_,_,_,_,_,_,_,_,_,_,_,_,_,_,_,_,_,_,_,_,_,_,_,_,_,_,_,_,_,_,_,_,_,_], []⟩) rfl rfl rfl rfl ?_
                      refine EndsOps.nil ?_
                      exact ⟨_, (by omega), q54, q58, k + 1, v3, (by kernel_rfl), hO49, rfl, hol51, by omega, by omega, by omega, hs3.step (revd_at he57 (by omega) (by omega)) (revd_at he61 (by omega) (by omega)) (byte_inj h62), hne3⟩
                    · skip
                      refine D.op (v := .bool false) (fr1 := ⟨[_,_,_,_,_,_,_,_,_,_,_,_,_,_,_,_,_,_,_,_,_,_,_,_,_,_,_,_,_,_,_,_,_,_,_,_,_,_,_,_,_,_,_,_,_,_,_,_,_,_,_,_,_,_,_,_,_,_,_,_,_,_,_,_,_,_,_,_,_,_,_,_,_,_,_,_,_,_,_,_,_,_,_,_,_,_,_,_,_,_,_,_,_,_,_,_,_,_,_,_,_,_,_,_,_, .bool false, _,_,_,_,_,_,_,_,_,_,_,_,_,_,_,_,_,_,_,_,_,_,_], []⟩) rfl (p_bin (eqF h62)) rfl rfl rfl ?_
                      refine D.op (v := .bool false) (fr1 := ⟨[_,_,_,_,_,_,_,_,_,_,_,_,_,_,_,_,_,_,_,_,_,_,_,_,_,_,_,_,_,_,_,_,_,_,_,_,_,_,_,_,_,_,_,_,_,_,_,_,_,_,_,_,_,_,_,_,_,_,_,_,_,_,_,_,_,_,_,_,_,_,_,_,_,_,_,_,_,_,_,_,_,_,_,_,_,_,_,_,_,_,_,_,_,_,_,_,_,_,_,_,_,_,_,_,_,_, .bool false, _,_,_,_,_,_,_,_,_,_,_,_,_,_,_,_,_,_,_,_,_,_], []⟩) rfl rfl rfl rfl rfl ?_
                      refine D.nil ?_
                      refine Ends.condF rfl ?_
                      refine Ends.exit ?_
                      refine W.outT rfl ?_
                      have hk : lastL ((B e25.tx).drop p) ((B e27.tx).drop p) = k := com_at hs3 fun a b ha hb => by rw [revd_at he57 (by omega) (by omega)] at ha; rw [revd_at he61 (by omega) (by omega)] at hb; cases ha; cases hb; exact byte_ne h62
                      have hD : diffE e25.tx e27.tx = ⟨((p : Nat) : Int), ((m : Nat) : Int), sub e27.tx ((p : Nat) : Int).toNat ((m2 : Nat) : Int).toNat⟩ := by unfold diffE; rw [hc, hk, show (B e25.tx).length - k = m by omega, show (B e27.tx).length - k = m2 by omega]; rfl
                      skip
                      exact ⟨rfl, m, m2, v3, (by kernel_rfl), hO49, hol51, hD, hpm, ⟨by omega, by omega⟩, hne3⟩
                  · skip
                    refine D.op (v := .bool false) (fr1 := ⟨[_,_,_,_,_,_,_,_,_,_,_,_,_,_,_,_,_,_,_,_,_,_,_,_,_,_,_,_,_,_,_,_,_,_,_,_,_,_,_,_,_,_,_,_,_,_,_,_,_,_,_,_,_,_,_,_,_,_,_,_,_,_,_,_,_,_,_,_,_,_,_,_,_,_,_,_,_,_,_,_,_,_,_,_,_,_,_,_,_,_,_,_,_,_, .bool false, _,_,_,_,_,_,_,_,_,_,_,_,_,_,_,_,_,_,_,_,_,_,_,_,_,_,_,_,_,_,_,_,_,_], []⟩) rfl (p_bin (gtF h53)) rfl rfl rfl ?_
                    refine D.op (v := .bool false) (fr1 := ⟨[_,_,_,_,_,_,_,_,_,_,_,_,_,_,_,_,_,_,_,_,_,_,_,_,_,_,_,_,_,_,_,_,_,_,_,_,_,_,_,_,_,_,_,_,_,_,_,_,_,_,_,_,_,_,_,_,_,_,_,_,_,_,_,_,_,_,_,_,_,_,_,_,_,_,_,_,_,_,_,_,_,_,_,_,_,_,_,_,_,_,_,_,_,_,_, .bool false, _,_,_,_,_,_,_,_,_,_,_,_,_,_,_,_,_,_,_,_,_,_,_,_,_,_,_,_,_,_,_,_,_], []⟩) rfl rfl rfl rfl rfl ?_
                    refine D.op (v := .bool false) (fr1 := ⟨[_,_,_,_,_,_,_,_,_,_,_,_,_,_,_,_,_,_,_,_,_,_,_,_,_,_,_,_,_,_,_,_,_,_,_,_,_,_,_,_,_,_,_,_,_,_,_,_,_,_,_,_,_,_,_,_,_,_,_,_,_,_,_,_,_,_,_,_,_,_,_,_,_,_,_,_,_,_,_,_,_,_,_,_,_,_,_,_,_,_,_,_,_,_,_,_, .bool false, _,_,_,_,_,_,_,_,_,_,_,_,_,_,_,_,_,_,_,_,_,_,_,_,_,_,_,_,_,_,_,_], []⟩) rfl rfl rfl rfl rfl ?_
                    refine D.skip (fr1 := ⟨[_,_,_,_,_,_,_,_,_,_,_,_,_,_,_,_,_,_,_,_,_,_,_,_,_,_,_,_,_,_,_,_,_,_,_,_,_,_,_,_,_,_,_,_,_,_,_,_,_,_,_,_,_,_,_,_,_,_,_,_,_,_,_,_,_,_,_,_,_,_,_,_,_,_,_,_,_,_,_,_,_,_,_,_,_,_,_,_,_,_,_,_,_,_,_,_,_, undef, _,_,_,_,_,_,_,_,_,_,_,_,_,_,_,_,_,_,_,_,_,_,_,_,_,_,_,_,_,_,_], []⟩) rfl rfl ?_
                    refine D.skip (fr1 := ⟨[_,_,_,_,_,_,_,_,_,_,_,_,_,_,_,_,_,_,_,_,_,_,_,_,_,_,_,_,_,_,_,_,_,_,_,_,_,_,_,_,_,_,_,_,_,_,_,_,_,_,_,_,_,_,_,_,_,_,_,_,_,_,_,_,_,_,_,_,_,_,_,_,_,_,_,_,_,_,_,_,_,_,_,_,_,_,_,_,_,_,_,_,_,_,_,_,_,_, undef, _,_,_,_,_,_,_,_,_,_,_,_,_,_,_,_,_,_,_,_,_,_,_,_,_,_,_,_,_,_], []⟩) rfl rfl ?_
                    refine D.skip (fr1 := ⟨[_,_,_,_,_,_,_,_,_,_,_,_,_,_,_,_,_,_,_,_,_,_,_,_,_,_,_,_,_,_,_,_,_,_,_,_,_,_,_,_,_,_,_,_,_,_,_,_,_,_,_,_,_,_,_,_,_,_,_,_,_,_,_,_,_,_,_,_,_,_,_,_,_,_,_,_,_,_,_,_,_,_,_,_,_,_,_,_,_,_,_,_,_,_,_,_,_,_,_, undef, _,_,_,_,_,_,_,_,_,_,_,_,_,_,_,_,_,_,_,_,_,_,_,_,_,_,_,_,_], []⟩) rfl rfl ?_
                    refine D.skip (fr1 := ⟨[_,_,_,_,_,_,_,_,_,_,_,_,_,_,_,_,_,_,_,_,_,_,_,_,_,_,_,_,_,_,_,_,_,_,_,_,_,_,_,_,_,_,_,_,_,_,_,_,_,_,_,_,_,_,_,_,_,_,_,_,_,_,_,_,_,_,_,_,_,_,_,_,_,_,_,_,_,_,_,_,_,_,_,_,_,_,_,_,_,_,_,_,_,_,_,_,_,_,_,_, undef, _,_,_,_,_,_,_,_,_,_,_,_,_,_,_,_,_,_,_,_,_,_,_,_,_,_,_,_], []⟩) rfl rfl ?_
                    refine D.skip (fr1 := ⟨[_,_,_,_,_,_,_,_,_,_,_,_,_,_,_,_,_,_,_,_,_,_,_,_,_,_,_,_,_,_,_,_,_,_,_,_,_,_,_,_,_,_,_,_,_,_,_,_,_,_,_,_,_,_,_,_,_,_,_,_,_,_,_,_,_,_,_,_,_,_,_,_,_,_,_,_,_,_,_,_,_,_,_,_,_,_,_,_,_,_,_,_,_,_,_,_,_,_,_,_,_, undef, _,_,_,_,_,_,_,_,_,_,_,_,_,_,_,_,_,_,_,_,_,_,_,_,_,_,_], []⟩) rfl rfl ?_
                    refine D.skip (fr1 := ⟨[_,_,_,_,_,_,_,_,_,_,_,_,_,_,_,_,_,_,_,_,_,_,_,_,_,_,_,_,_,_,_,_,_,_,_,_,_,_,_,_,_,_,_,_,_,_,_,_,_,_,_,_,_,_,_,_,_,_,_,_,_,_,_,_,_,_,_,_,_,_,_,_,_,_,_,_,_,_,_,_,_,_,_,_,_,_,_,_,_,_,_,_,_,_,_,_,_,_,_,_,_,_, undef, _,_,_,_,_,_,_,_,_,_,_,_,_,_,_,_,_,_,_,_,_,_,_,_,_,_], []⟩) rfl rfl ?_
                    refine D.skip (fr1 := ⟨[_,_,_,_,_,_,_,_,_,_,_,_,_,_,_,_,_,_,_,_,_,_,_,_,_,_,_,_,_,_,_,_,_,_,_,_,_,_,_,_,_,_,_,_,_,_,_,_,_,_,_,_,_,_,_,_,_,_,_,_,_,_,_,_,_,_,_,_,_,_,_,_,_,_,_,_,_,_,_,_,_,_,_,_,_,_,_,_,_,_,_,_,_,_,_,_,_,_,_,_,_,_,_, undef, _,_,_,_,_,_,_,_,_,_,_,_,_,_,_,_,_,_,_,_,_,_,_,_,_], []⟩) rfl rfl ?_
                    refine D.skip (fr1 := ⟨[_,_,_,_,_,_,_,_,_,_,_,_,_,_,_,_,_,_,_,_,_,_,_,_,_,_,_,_,_,_,_,_,_,_,_,_,_,_,_,_,_,_,_,_,_,_,_,_,_,_,_,_,_,_,_,_,_,_,_,_,_,_,_,_,_,_,_,_,_,_,_,_,_,_,_,_,_,_,_,_,_,_,_,_,_,_,_,_,_,_,_,_,_,_,_,_,_,_,_,_,_,_,_,_, undef, _,_,_,_,_,_,_,_,_,_,_,_,_,_,_,_,_,_,_,_,_,_,_,_], []⟩) rfl rfl ?_
                    refine D.skip (fr1 := ⟨[_,_,_,_,_,_,_,_,_,_,_,_,_,_,_,_,_,_,_,_,_,_,_,_,_,_,_,_,_,_,_,_,_,_,_,_,_,_,_,_,_,_,_,_,_,_,_,_,_,_,_,_,_,_,_,_,_,_,_,_,_,_,_,_,_,_,_,_,_,_,_,_,_,_,_,_,_,_,_,_,_,_,_,_,_,_,_,_,_,_,_,_,_,_,_,_,_,_,_,_,_,_,_,_,_, undef, _,_,_,_,_,_,_,_,_,_,_,_,_,_,_,_,_,_,_,_,_,_,_], []⟩) rfl rfl ?_
                    refine D.op (v := .bool false) (fr1 := ⟨[_,_,_,_,_,_,_,_,_,_,_,_,_,_,_,_,_,_,_,_,_,_,_,_,_,_,_,_,_,_,_,_,_,_,_,_,_,_,_,_,_,_,_,_,_,_,_,_,_,_,_,_,_,_,_,_,_,_,_,_,_,_,_,_,_,_,_,_,_,_,_,_,_,_,_,_,_,_,_,_,_,_,_,_,_,_,_,_,_,_,_,_,_,_,_,_,_,_,_,_,_,_,_,_,_,_, .bool false, _,_,_,_,_,_,_,_,_,_,_,_,_,_,_,_,_,_,_,_,_,_], []⟩) rfl rfl rfl rfl rfl ?_
                    refine D.nil ?_
                    refine Ends.condF rfl ?_
                    refine Ends.exit ?_
                    refine W.outT rfl ?_
                    have hk : lastL ((B e25.tx).drop p) ((B e27.tx).drop p) = k := com_at hs3 fun a b ha hb => by have h1 := (List.getElem?_eq_some_iff.1 ha).1; have h2 := (List.getElem?_eq_some_iff.1 hb).1; simp only [List.length_reverse, List.length_drop] at h1 h2; omega
                    have hD : diffE e25.tx e27.tx = ⟨((p : Nat) : Int), ((m : Nat) : Int), sub e27.tx ((p : Nat) : Int).toNat ((m2 : Nat) : Int).toNat⟩ := by unfold diffE; rw [hc, hk, show (B e25.tx).length - k = m by omega, show (B e27.tx).length - k = m2 by omega]; rfl
                    skip
                    exact ⟨rfl, m, m2, v3, (by kernel_rfl), hO49, hol51, hD, hpm, ⟨by omega, by omega⟩, hne3⟩
                · skip
                  refine D.op (v := .bool false) (fr1 := ⟨[_,_,_,_,_,_,_,_,_,_,_,_,_,_,_,_,_,_,_,_,_,_,_,_,_,_,_,_,_,_,_,_,_,_,_,_,_,_,_,_,_,_,_,_,_,_,_,_,_,_,_,_,_,_,_,_,_,_,_,_,_,_,_,_,_,_,_,_,_,_,_,_,_,_,_,_,_,_,_,_,_,_,_,_,_,_,_,_,_,_, .bool false, _,_,_,_,_,_,_,_,_,_,_,_,_,_,_,_,_,_,_,_,_,_,_,_,_,_,_,_,_,_,_,_,_,_,_,_,_,_], []⟩) rfl (p_bin (gtF h52)) rfl rfl rfl ?_
                  refine D.op (v := .bool false) (fr1 := ⟨[_,_,_,_,_,_,_,_,_,_,_,_,_,_,_,_,_,_,_,_,_,_,_,_,_,_,_,_,_,_,_,_,_,_,_,_,_,_,_,_,_,_,_,_,_,_,_,_,_,_,_,_,_,_,_,_,_,_,_,_,_,_,_,_,_,_,_,_,_,_,_,_,_,_,_,_,_,_,_,_,_,_,_,_,_,_,_,_,_,_,_, .bool false, _,_,_,_,_,_,_,_,_,_,_,_,_,_,_,_,_,_,_,_,_,_,_,_,_,_,_,_,_,_,_,_,_,_,_,_,_], []⟩) rfl rfl rfl rfl rfl ?_
                  refine D.skip (fr1 := ⟨[_,_,_,_,_,_,_,_,_,_,_,_,_,_,_,_,_,_,_,_,_,_,_,_,_,_,_,_,_,_,_,_,_,_,_,_,_,_,_,_,_,_,_,_,_,_,_,_,_,_,_,_,_,_,_,_,_,_,_,_,_,_,_,_,_,_,_,_,_,_,_,_,_,_,_,_,_,_,_,_,_,_,_,_,_,_,_,_,_,_,_,_, undef, _,_,_,_,_,_,_,_,_,_,_,_,_,_,_,_,_,_,_,_,_,_,_,_,_,_,_,_,_,_,_,_,_,_,_,_], []⟩) rfl rfl ?_
                  refine D.skip (fr1 := ⟨[_,_,_,_,_,_,_,_,_,_,_,_,_,_,_,_,_,_,_,_,_,_,_,_,_,_,_,_,_,_,_,_,_,_,_,_,_,_,_,_,_,_,_,_,_,_,_,_,_,_,_,_,_,_,_,_,_,_,_,_,_,_,_,_,_,_,_,_,_,_,_,_,_,_,_,_,_,_,_,_,_,_,_,_,_,_,_,_,_,_,_,_,_, undef, _,_,_,_,_,_,_,_,_,_,_,_,_,_,_,_,_,_,_,_,_,_,_,_,_,_,_,_,_,_,_,_,_,_,_], []⟩) rfl rfl ?_
                  refine D.skip (fr1 := ⟨[_,_,_,_,_,_,_,_,_,_,_,_,_,_,_,_,_,_,_,_,_,_,_,_,_,_,_,_,_,_,_,_,_,_,_,_,_,_,_,_,_,_,_,_,_,_,_,_,_,_,_,_,_,_,_,_,_,_,_,_,_,_,_,_,_,_,_,_,_,_,_,_,_,_,_,_,_,_,_,_,_,_,_,_,_,_,_,_,_,_,_,_,_,_, undef, _,_,_,_,_,_,_,_,_,_,_,_,_,_,_,_,_,_,_,_,_,_,_,_,_,_,_,_,_,_,_,_,_,_], []⟩) rfl rfl ?_
                  refine D.op (v := .bool false) (fr1 := ⟨[_,_,_,_,_,_,_,_,_,_,_,_,_,_,_,_,_,_,_,_,_,_,_,_,_,_,_,_,_,_,_,_,_,_,_,_,_,_,_,_,_,_,_,_,_,_,_,_,_,_,_,_,_,_,_,_,_,_,_,_,_,_,_,_,_,_,_,_,_,_,_,_,_,_,_,_,_,_,_,_,_,_,_,_,_,_,_,_,_,_,_,_,_,_,_, .bool false, _,_,_,_,_,_,_,_,_,_,_,_,_,_,_,_,_,_,_,_,_,_,_,_,_,_,_,_,_,_,_,_,_], []⟩) rfl rfl rfl rfl rfl ?_
                  refine D.op (v := .bool false) (fr1 := ⟨[_,_,_,_,_,_,_,_,_,_,_,_,_,_,_,_,_,_,_,_,_,_,_,_,_,_,_,_,_,_,_,_,_,_,_,_,_,_,_,_,_,_,_,_,_,_,_,_,_,_,_,_,_,_,_,_,_,_,_,_,_,_,_,_,_,_,_,_,_,_,_,_,_,_,_,_,_,_,_,_,_,_,_,_,_,_,_,_,_,_,_,_,_,_,_,_, .bool false, _,_,_,_,_,_,_,_,_,_,_,_,_,_,_,_,_,_,_,_,_,_,_,_,_,_,_,_,_,_,_,_], []⟩) rfl rfl rfl rfl rfl ?_
                  refine D.skip (fr1 := ⟨[_,_,_,_,_,_,_,_,_,_,_,_,_,_,_,_,_,_,_,_,_,_,_,_,_,_,_,_,_,_,_,_,_,_,_,_,_,_,_,_,_,_,_,_,_,_,_,_,_,_,_,_,_,_,_,_,_,_,_,_,_,_,_,_,_,_,_,_,_,_,_,_,_,_,_,_,_,_,_,_,_,_,_,_,_,_,_,_,_,_,_,_,_,_,_,_,_, undef, _,_,_,_,_,_,_,_,_,_,_,_,_,_,_,_,_,_,_,_,_,_,_,_,_,_,_,_,_,_,_], []⟩) rfl rfl ?_
                  refine D.skip (fr1 := ⟨[_,_,_,_,_,_,_,_,_,_,_,_,_,_,_,_,_,_,_,_,_,_,_,_,_,_,_,_,_,_,_,_,_,_,_,_,_,_,_,_,_,_,_,_,_,_,_,_,_,_,_,_,_,_,_,_,_,_,_,_,_,_,_,_,_,_,_,_,_,_,_,_,_,_,_,_,_,_,_,_,_,_,_,_,_,_,_,_,_,_,_,_,_,_,_,_,_,_, undef, _,_,_,_,_,_,_,_,_,_,_,_,_,_,_,_,_,_,_,_,_,_,_,_,_,_,_,_,_,_], []⟩) rfl rfl ?_
                  refine D.skip (fr1 := ⟨[_,_,_,_,_,_,_,_,_,_,_,_,_,_,_,_,_,_,_,_,_,_,_,_,_,_,_,_,_,_,_,_,_,_,_,_,_,_,_,_,_,_,_,_,_,_,_,_,_,_,_,_,_,_,_,_,_,_,_,_,_,_,_,_,_,_,_,_,_,_,_,_,_,_,_,_,_,_,_,_,_,_,_,_,_,_,_,_,_,_,_,_,_,_,_,_,_,_,_, undef, _,_,_,_,_,_,_,_,_,_,_,_,_,_,_,_,_,_,_,_,_,_,_,_,_,_,_,_,_], []⟩) rfl rfl ?_
                  refine D.skip (fr1 := ⟨[_,_,_,_,_,_,_,_,_,_,_,_,_,_,_,_,_,_,_,_,_,_,_,_,_,_,_,_,_,_,_,_,_,_,_,_,_,_,_,_,_,_,_,_,_,_,_,_,_,_,_,_,_,_,_,_,_,_,_,_,_,_,_,_,_,_,_,_,_,_,_,_,_,_,_,_,_,_,_,_,_,_,_,_,_,_,_,_,_,_,_,_,_,_,_,_,_,_,_,_, undef, _,_,_,_,_,_,_,_,_,_,_,_,_,_,_,_,_,_,_,_,_,_,_,_,_,_,_,_], []⟩) rfl rfl ?_
                  refine D.skip (fr1 := ⟨[_,_,_,_,_,_,_,_,_,_,_,_,_,_,_,_,_,_,_,_,_,_,_,_,_,_,_,_,_,_,_,_,_,_,_,_,_,_,_,_,_,_,_,_,_,_,_,_,_,_,_,_,_,_,_,_,_,_,_,_,_,_,_,_,_,_,_,_,_,_,_,_,_,_,_,_,_,_,_,_,_,_,_,_,_,_,_,_,_,_,_,_,_,_,_,_,_,_,_,_,_, undef, _,_,_,_,_,_,_,_,_,_,_,_,_,_,_,_,_,_,_,_,_,_,_,_,_,_,_], []⟩) rfl rfl ?_
                  refine D.skip (fr1 := ⟨[_,_,_,_,_,_,_,_,_,_,_,_,_,_,_,_,_,_,_,_,_,_,_,_,_,_,_,_,_,_,_,_,_,_,_,_,_,_,_,_,_,_,_,_,_,_,_,_,_,_,_,_,_,_,_,_,_,_,_,_,_,_,_,_,_,_,_,_,_,_,_,_,_,_,_,_,_,_,_,_,_,_,_,_,_,_,_,_,_,_,_,_,_,_,_,_,_,_,_,_,_,_, undef, _,_,_,_,_,_,_,_,_,_,_,_,_,_,_,_,_,_,_,_,_,_,_,_,_,_], []⟩) rfl rfl ?_
                  refine D.skip (fr1 := ⟨[_,_,_,_,_,_,_,_,_,_,_,_,_,_,_,_,_,_,_,_,_,_,_,_,_,_,_,_,_,_,_,_,_,_,_,_,_,_,_,_,_,_,_,_,_,_,_,_,_,_,_,_,_,_,_,_,_,_,_,_,_,_,_,_,_,_,_,_,_,_,_,_,_,_,_,_,_,_,_,_,_,_,_,_,_,_,_,_,_,_,_,_,_,_,_,_,_,_,_,_,_,_,_, undef, _,_,_,_,_,_,_,_,_,_,_,_,_,_,_,_,_,_,_,_,_,_,_,_,_], []⟩) rfl rfl ?_
                  refine D.skip (fr1 := ⟨[_,_,_,_,_,_,_,_,_,_,_,_,_,_,_,_,_,_,_,_,_,_,_,_,_,_,_,_,_,_,_,_,_,_,_,_,_,_,_,_,_,_,_,_,_,_,_,_,_,_,_,_,_,_,_,_,_,_,_,_,_,_,_,_,_,_,_,_,_,_,_,_,_,_,_,_,_,_,_,_,_,_,_,_,_,_,_,_,_,_,_,_,_,_,_,_,_,_,_,_,_,_,_,_, undef, _,_,_,_,_,_,_,_,_,_,_,_,_,_,_,_,_,_,_,_,_,_,_,_], []⟩) rfl rfl ?_
                  refine D.skip (fr1 := ⟨[_,_,_,_,_,_,_,_,_,_,_,_,_,_,_,_,_,_,_,_,_,_,_,_,_,_,_,_,_,_,_,_,_,_,_,_,_,_,_,_,_,_,_,_,_,_,_,_,_,_,_,_,_,_,_,_,_,_,_,_,_,_,_,_,_,_,_,_,_,_,_,_,_,_,_,_,_,_,_,_,_,_,_,_,_,_,_,_,_,_,_,_,_,_,_,_,_,_,_,_,_,_,_,_,_, undef, _,_,_,_,_,_,_,_,_,_,_,_,_,_,_,_,_,_,_,_,_,_,_], []⟩) rfl rfl ?_
                  refine D.op (v := .bool false) (fr1 := ⟨[_,_,_,_,_,_,_,_,_,_,_,_,_,_,_,_,_,_,_,_,_,_,_,_,_,_,_,_,_,_,_,_,_,_,_,_,_,_,_,_,_,_,_,_,_,_,_,_,_,_,_,_,_,_,_,_,_,_,_,_,_,_,_,_,_,_,_,_,_,_,_,_,_,_,_,_,_,_,_,_,_,_,_,_,_,_,_,_,_,_,_,_,_,_,_,_,_,_,_,_,_,_,_,_,_,_, .bool false, _,_,_,_,_,_,_,_,_,_,_,_,_,_,_,_,_,_,_,_,_,_], []⟩) rfl rfl rfl rfl rfl ?_
                  refine D.nil ?_
                  refine Ends.condF rfl ?_
                  refine Ends.exit ?_
                  refine W.outT rfl ?_
                  have hk : lastL ((B e25.tx).drop p) ((B e27.tx).drop p) = k := com_at hs3 fun a b ha hb => by have h1 := (List.getElem?_eq_some_iff.1 ha).1; have h2 := (List.getElem?_eq_some_iff.1 hb).1; simp only [List.length_reverse, List.length_drop] at h1 h2; omega
                  have hD : diffE e25.tx e27.tx = ⟨((p : Nat) : Int), ((m : Nat) : Int), sub e27.tx ((p : Nat) : Int).toNat ((m2 : Nat) : Int).toNat⟩ := by unfold diffE; rw [hc, hk, show (B e25.tx).length - k = m by omega, show (B e27.tx).length - k = m2 by omega]; rfl
                  skip
                  exact ⟨rfl, m, m2, v3, (by kernel_rfl), hO49, hol51, hD, hpm, ⟨by omega, by omega⟩, hne3⟩
              rintro jf46 _ s63 ⟨m, m2, vB, rfl, hO64, hol65, hD, hpm, hml, hneB⟩
              refine Ends.drawE (bef := [0, 0, 0, 6, 14, 30, 0, 0, 0, 0, 0, 1792, 4032, 8128, 16382, 32766, 65535, 131071]) (by kernel_rfl) ?_
              refine E.op (v := vB) (fr1 := ⟨[_,_,_,_,_,_,_,_,_,_,_,_,_,_,_,_,_,_,_,_,_,_,_,_,_,_,_,_,_,_,_,_,_,_,_,_,_,_,_,_,_,_,_,_,_,_,_,_,_,_,_,_,_,_,_,_,_,_,_,_,_,_,_,_,_,_,_,_,_,_,_,_,_,_,_,_,_,_,_,_,_,_,_,_,_,_,_,_,_,_,_,_,_,_,_,_,_,_,_,_,_,_,_,_,_,_,_,_,_,_,_, vB, _,_,_,_,_,_,_,_,_,_,_,_,_,_,_,_,_], []⟩) rfl rfl rfl rfl rfl ?_
              refine E.op (v := .slice aa a.length ca) (fr1 := ⟨[_,_,_,_,_,_,_,_,_,_,_,_,_,_,_,_,_,_,_,_,_,_,_,_,_,_,_,_,_,_,_,_,_,_,_,_,_,_,_,_,_,_,_,_,_,_,_,_,_,_,_,_,_,_,_,_,_,_,_,_,_,_,_,_,_,_,_,_,_,_,_,_,_,_,_,_,_,_,_,_,_,_,_,_,_,_,_,_,_,_,_,_,_,_,_,_,_,_,_,_,_,_,_,_,_,_,_,_,_,_,_,_, .slice aa a.length ca, _,_,_,_,_,_,_,_,_,_,_,_,_,_,_,_], []⟩) rfl rfl rfl rfl rfl ?_
              refine E.op (v := .int .i64 ((i : Nat) : Int)) (fr1 := ⟨[_,_,_,_,_,_,_,_,_,_,_,_,_,_,_,_,_,_,_,_,_,_,_,_,_,_,_,_,_,_,_,_,_,_,_,_,_,_,_,_,_,_,_,_,_,_,_,_,_,_,_,_,_,_,_,_,_,_,_,_,_,_,_,_,_,_,_,_,_,_,_,_,_,_,_,_,_,_,_,_,_,_,_,_,_,_,_,_,_,_,_,_,_,_,_,_,_,_,_,_,_,_,_,_,_,_,_,_,_,_,_,_,_, .int .i64 ((i : Nat) : Int), _,_,_,_,_,_,_,_,_,_,_,_,_,_,_], []⟩) rfl rfl rfl rfl rfl ?_
              refine E.op (v := .pointer (some ⟨Na, oa + i * 2, none⟩)) (fr1 := ⟨[_,_,_,_,_,_,_,_,_,_,_,_,_,_,_,_,_,_,_,_,_,_,_,_,_,_,_,_,_,_,_,_,_,_,_,_,_,_,_,_,_,_,_,_,_,_,_,_,_,_,_,_,_,_,_,_,_,_,_,_,_,_,_,_,_,_,_,_,_,_,_,_,_,_,_,_,_,_,_,_,_,_,_,_,_,_,_,_,_,_,_,_,_,_,_,_,_,_,_,_,_,_,_,_,_,_,_,_,_,_,_,_,_,_, .pointer (some ⟨Na, oa + i * 2, none⟩), _,_,_,_,_,_,_,_,_,_,_,_,_,_], []⟩) rfl (p_ix (Sl.ix Ha rfl rfl he26 _)) rfl rfl rfl ?_
              refine E.op (v := .pointer (some ⟨Na, oa + i * 2 + 0, none⟩)) (fr1 := ⟨[_,_,_,_,_,_,_,_,_,_,_,_,_,_,_,_,_,_,_,_,_,_,_,_,_,_,_,_,_,_,_,_,_,_,_,_,_,_,_,_,_,_,_,_,_,_,_,_,_,_,_,_,_,_,_,_,_,_,_,_,_,_,_,_,_,_,_,_,_,_,_,_,_,_,_,_,_,_,_,_,_,_,_,_,_,_,_,_,_,_,_,_,_,_,_,_,_,_,_,_,_,_,_,_,_,_,_,_,_,_,_,_,_,_,_, .pointer (some ⟨Na, oa + i * 2 + 0, none⟩), _,_,_,_,_,_,_,_,_,_,_,_,_], []⟩) rfl rfl rfl rfl rfl ?_
              refine E.load (v := .string e25.nm) (fr1 := ⟨[_,_,_,_,_,_,_,_,_,_,_,_,_,_,_,_,_,_,_,_,_,_,_,_,_,_,_,_,_,_,_,_,_,_,_,_,_,_,_,_,_,_,_,_,_,_,_,_,_,_,_,_,_,_,_,_,_,_,_,_,_,_,_,_,_,_,_,_,_,_,_,_,_,_,_,_,_,_,_,_,_,_,_,_,_,_,_,_,_,_,_,_,_,_,_,_,_,_,_,_,_,_,_,_,_,_,_,_,_,_,_,_,_,_,_,_, .string e25.nm, _,_,_,_,_,_,_,_,_,_,_,_], []⟩) rfl rfl rfl (fun _ h => by cases h) (fun s1 hg => (p_load1 ⟨hg.trans ((Sl.row' (Ha.own hO64) he26)).get, ((Sl.row' (Ha.own hO64) he26)).lt⟩ rfl rfl rfl ((Ha.own hO64).at (j := 0) he26 rfl))) rfl ?_
              refine E.op (v := .int .i64 ((p : Nat) : Int)) (fr1 := ⟨[_,_,_,_,_,_,_,_,_,_,_,_,_,_,_,_,_,_,_,_,_,_,_,_,_,_,_,_,_,_,_,_,_,_,_,_,_,_,_,_,_,_,_,_,_,_,_,_,_,_,_,_,_,_,_,_,_,_,_,_,_,_,_,_,_,_,_,_,_,_,_,_,_,_,_,_,_,_,_,_,_,_,_,_,_,_,_,_,_,_,_,_,_,_,_,_,_,_,_,_,_,_,_,_,_,_,_,_,_,_,_,_,_,_,_,_,_, .int .i64 ((p : Nat) : Int), _,_,_,_,_,_,_,_,_,_,_], []⟩) rfl rfl rfl rfl rfl ?_
              refine E.op (v := .int .i64 ((m : Nat) : Int)) (fr1 := ⟨[_,_,_,_,_,_,_,_,_,_,_,_,_,_,_,_,_,_,_,_,_,_,_,_,_,_,_,_,_,_,_,_,_,_,_,_,_,_,_,_,_,_,_,_,_,_,_,_,_,_,_,_,_,_,_,_,_,_,_,_,_,_,_,_,_,_,_,_,_,_,_,_,_,_,_,_,_,_,_,_,_,_,_,_,_,_,_,_,_,_,_,_,_,_,_,_,_,_,_,_,_,_,_,_,_,_,_,_,_,_,_,_,_,_,_,_,_,_, .int .i64 ((m : Nat) : Int), _,_,_,_,_,_,_,_,_,_], []⟩) rfl rfl rfl rfl rfl ?_
              refine E.op (v := .string e27.tx) (fr1 := ⟨[_,_,_,_,_,_,_,_,_,_,_,_,_,_,_,_,_,_,_,_,_,_,_,_,_,_,_,_,_,_,_,_,_,_,_,_,_,_,_,_,_,_,_,_,_,_,_,_,_,_,_,_,_,_,_,_,_,_,_,_,_,_,_,_,_,_,_,_,_,_,_,_,_,_,_,_,_,_,_,_,_,_,_,_,_,_,_,_,_,_,_,_,_,_,_,_,_,_,_,_,_,_,_,_,_,_,_,_,_,_,_,_,_,_,_,_,_,_,_, .string e27.tx, _,_,_,_,_,_,_,_,_], []⟩) rfl rfl rfl rfl rfl ?_
              refine E.op (v := .int .i64 ((p : Nat) : Int)) (fr1 := ⟨[_,_,_,_,_,_,_,_,_,_,_,_,_,_,_,_,_,_,_,_,_,_,_,_,_,_,_,_,_,_,_,_,_,_,_,_,_,_,_,_,_,_,_,_,_,_,_,_,_,_,_,_,_,_,_,_,_,_,_,_,_,_,_,_,_,_,_,_,_,_,_,_,_,_,_,_,_,_,_,_,_,_,_,_,_,_,_,_,_,_,_,_,_,_,_,_,_,_,_,_,_,_,_,_,_,_,_,_,_,_,_,_,_,_,_,_,_,_,_,_, .int .i64 ((p : Nat) : Int), _,_,_,_,_,_,_,_], []⟩) rfl rfl rfl rfl rfl ?_
              refine E.op (v := .int .i64 ((m2 : Nat) : Int)) (fr1 := ⟨[_,_,_,_,_,_,_,_,_,_,_,_,_,_,_,_,_,_,_,_,_,_,_,_,_,_,_,_,_,_,_,_,_,_,_,_,_,_,_,_,_,_,_,_,_,_,_,_,_,_,_,_,_,_,_,_,_,_,_,_,_,_,_,_,_,_,_,_,_,_,_,_,_,_,_,_,_,_,_,_,_,_,_,_,_,_,_,_,_,_,_,_,_,_,_,_,_,_,_,_,_,_,_,_,_,_,_,_,_,_,_,_,_,_,_,_,_,_,_,_,_, .int .i64 ((m2 : Nat) : Int), _,_,_,_,_,_,_], []⟩) rfl rfl rfl rfl rfl ?_
              refine E.op (v := .string (sub e27.tx ((p : Nat) : Int).toNat ((m2 : Nat) : Int).toNat)) (fr1 := ⟨[_,_,_,_,_,_,_,_,_,_,_,_,_,_,_,_,_,_,_,_,_,_,_,_,_,_,_,_,_,_,_,_,_,_,_,_,_,_,_,_,_,_,_,_,_,_,_,_,_,_,_,_,_,_,_,_,_,_,_,_,_,_,_,_,_,_,_,_,_,_,_,_,_,_,_,_,_,_,_,_,_,_,_,_,_,_,_,_,_,_,_,_,_,_,_,_,_,_,_,_,_,_,_,_,_,_,_,_,_,_,_,_,_,_,_,_,_,_,_,_,_,_, .string (sub e27.tx ((p : Nat) : Int).toNat ((m2 : Nat) : Int).toNat), _,_,_,_,_,_], []⟩) rfl (p_sub rfl rfl rfl rfl (by omega) (by omega) (by omega)) rfl rfl rfl ?_
              refine E.op (v := .agg ⟨[.int .i64 ((diffE e25.tx e27.tx).lo), .int .i64 ((diffE e25.tx e27.tx).hi), .string ((diffE e25.tx e27.tx).tx)]⟩) (fr1 := ⟨[_,_,_,_,_,_,_,_,_,_,_,_,_,_,_,_,_,_,_,_,_,_,_,_,_,_,_,_,_,_,_,_,_,_,_,_,_,_,_,_,_,_,_,_,_,_,_,_,_,_,_,_,_,_,_,_,_,_,_,_,_,_,_,_,_,_,_,_,_,_,_,_,_,_,_,_,_,_,_,_,_,_,_,_,_,_,_,_,_,_,_,_,_,_,_,_,_,_,_,_,_,_,_,_,_,_,_,_,_,_,_,_,_,_,_,_,_,_,_,_,_,_,_, .agg ⟨[.int .i64 ((diffE e25.tx e27.tx).lo), .int .i64 ((diffE e25.tx e27.tx).hi), .string ((diffE e25.tx e27.tx).tx)]⟩, _,_,_,_,_], []⟩) rfl (by rw [hD]; rfl) rfl rfl rfl ?_
              obtain ⟨N66, hN67⟩ : ∃ N, N = s63.next := ⟨_, rfl⟩
              have hb68 : s63.next ≤ N66 := hN67 ▸ (Own.refl s63).next
              refine E.newS (N := N66) (vF := fun N => .slice (some ⟨N, 0, none⟩) 1 1) (vs := [.int .i64 ((diffE e25.tx e27.tx).lo), .int .i64 ((diffE e25.tx e27.tx).hi), .string ((diffE e25.tx e27.tx).tx)]) (fr1 := ⟨[_,_,_,_,_,_,_,_,_,_,_,_,_,_,_,_,_,_,_,_,_,_,_,_,_,_,_,_,_,_,_,_,_,_,_,_,_,_,_,_,_,_,_,_,_,_,_,_,_,_,_,_,_,_,_,_,_,_,_,_,_,_,_,_,_,_,_,_,_,_,_,_,_,_,_,_,_,_,_,_,_,_,_,_,_,_,_,_,_,_,_,_,_,_,_,_,_,_,_,_,_,_,_,_,_,_,_,_,_,_,_,_,_,_,_,_,_,_,_,_,_,_,_,_, .slice (some ⟨N66, 0, none⟩) 1 1, _,_,_,_], []⟩) hO64 hN67 rfl rfl (p_bs rfl rfl zero97 rfl (by decide) rfl rfl) rfl rfl rfl ?_
              intro s69 hO70 hS71 r72 hB73
              have ne74 := NE.own hneB hS71
              have hE75 := (Own.refl s63).trans hS71
              refine E.op (v := .agg ⟨[.string e25.nm, .slice (some ⟨N66, 0, none⟩) 1 1]⟩) (fr1 := ⟨[_,_,_,_,_,_,_,_,_,_,_,_,_,_,_,_,_,_,_,_,_,_,_,_,_,_,_,_,_,_,_,_,_,_,_,_,_,_,_,_,_,_,_,_,_,_,_,_,_,_,_,_,_,_,_,_,_,_,_,_,_,_,_,_,_,_,_,_,_,_,_,_,_,_,_,_,_,_,_,_,_,_,_,_,_,_,_,_,_,_,_,_,_,_,_,_,_,_,_,_,_,_,_,_,_,_,_,_,_,_,_,_,_,_,_,_,_,_,_,_,_,_,_,_,_, .agg ⟨[.string e25.nm, .slice (some ⟨N66, 0, none⟩) 1 1]⟩, _,_,_], []⟩) rfl rfl rfl rfl rfl ?_
              obtain ⟨N76, hN77⟩ : ∃ N, N = s69.next := ⟨_, rfl⟩
              have hb78 : s63.next ≤ N76 := hN77 ▸ hE75.next
              refine E.newS (N := N76) (vF := fun N => .slice (some ⟨N, 0, none⟩) 1 1) (vs := [.string e25.nm, .slice (some ⟨N66, 0, none⟩) 1 1]) (fr1 := ⟨[_,_,_,_,_,_,_,_,_,_,_,_,_,_,_,_,_,_,_,_,_,_,_,_,_,_,_,_,_,_,_,_,_,_,_,_,_,_,_,_,_,_,_,_,_,_,_,_,_,_,_,_,_,_,_,_,_,_,_,_,_,_,_,_,_,_,_,_,_,_,_,_,_,_,_,_,_,_,_,_,_,_,_,_,_,_,_,_,_,_,_,_,_,_,_,_,_,_,_,_,_,_,_,_,_,_,_,_,_,_,_,_,_,_,_,_,_,_,_,_,_,_,_,_,_,_, .slice (some ⟨N76, 0, none⟩) 1 1, _,_], []⟩) hO70 hN77 rfl rfl (p_bs rfl rfl zero119 rfl (by decide) rfl rfl) rfl rfl rfl ?_
              intro s79 hO80 hS81 r82 hB83
              have ne84 := NE.own ne74 hS81
              have hE85 := hE75.trans hS81
              have r86 := r72.own hS81
              refine E.appendO (c := Pv.cells) (l := o) (x := ⟨e25.nm, N66, (diffE e25.tx e27.tx)⟩) (fF := fun v87 => ⟨[_,_,_,_,_,_,_,_,_,_,_,_,_,_,_,_,_,_,_,_,_,_,_,_,_,_,_,_,_,_,_,_,_,_,_,_,_,_,_,_,_,_,_,_,_,_,_,_,_,_,_,_,_,_,_,_,_,_,_,_,_,_,_,_,_,_,_,_,_,_,_,_,_,_,_,_,_,_,_,_,_,_,_,_,_,_,_,_,_,_,_,_,_,_,_,_,_,_,_,_,_,_,_,_,_,_,_,_,_,_,_,_,_,_,_,_,_,_,_,_,_,_,_,_,_,_,_, v87, _], []⟩) app59 (fun _ => rfl) (by exact Pv.one) hO80 hE85 hol65 r82 rfl rfl rfl rfl rfl (by decide) (by omega) (by omega) (fun _ => rfl) ?_
              intro v87 s88 hO89 hnx90 hu91 hol92 ho93
              have ne94 := NE.oth ne84 ho93 (by decide)
              have r95 := ho93 _ _ _ _ r86 (by decide)
              have ne96 := NE.snoc (p := ⟨e25.nm, N66, (diffE e25.tx e27.tx)⟩) ne94 r95
              refine F.op (v := v87) (fr1 := ⟨[_,_,_,_,_,_,_, v87, _,_,_,_,_,_,_,_,_,_,_,_,_,_,_,_,_,_,_,_,_,_,_,_,_,_,_,_,_,_,_,_,_,_,_,_,_,_,_,_,_,_,_,_,_,_,_,_,_,_,_,_,_,_,_,_,_,_,_,_,_,_,_,_,_,_,_,_,_,_,_,_,_,_,_,_,_,_,_,_,_,_,_,_,_,_,_,_,_,_,_,_,_,_,_,_,_,_,_,_,_,_,_,_,_,_,_,_,_,_,_,_,_,_,_,_,_,_,_,_,_], []⟩) rfl rfl rfl rfl rfl ?_
              refine F.nil ?_
              refine Ends.region ?_
              refine W.op (v := .int .i64 ((i : Nat) : Int)) (fr1 := ⟨[_,_,_,_,_,_,_,_,_,_,_,_,_,_,_,_,_,_,_,_,_,_,_,_,_,_,_,_,_,_,_,_,_,_,_,_,_,_,_,_,_,_,_,_,_,_,_,_, .int .i64 ((i : Nat) : Int), _,_,_,_,_,_,_,_,_,_,_,_,_,_,_,_,_,_,_,_,_,_,_,_,_,_,_,_,_,_,_,_,_,_,_,_,_,_,_,_,_,_,_,_,_,_,_,_,_,_,_,_,_,_,_,_,_,_,_,_,_,_,_,_,_,_,_,_,_,_,_,_,_,_,_,_,_,_,_,_], []⟩) rfl rfl rfl rfl ?_
              refine W.op (v := .int .i64 ((i + 1 : Nat) : Int)) (fr1 := ⟨[_,_,_,_,_,_,_,_,_,_,_,_,_,_,_,_,_,_,_,_,_,_,_,_,_,_,_,_,_,_,_,_,_,_,_,_,_,_,_,_,_,_,_,_,_,_,_,_,_, .int .i64 ((i + 1 : Nat) : Int), _,_,_,_,_,_,_,_,_,_,_,_,_,_,_,_,_,_,_,_,_,_,_,_,_,_,_,_,_,_,_,_,_,_,_,_,_,_,_,_,_,_,_,_,_,_,_,_,_,_,_,_,_,_,_,_,_,_,_,_,_,_,_,_,_,_,_,_,_,_,_,_,_,_,_,_,_,_,_], []⟩) rfl (p_bin (addI (by omega) (by omega) (by omega))) rfl rfl ?_
              refine W.op (v := .int .i64 ((i + 1 : Nat) : Int)) (fr1 := ⟨[_,_,_,_,_,_,_,_, .int .i64 ((i + 1 : Nat) : Int), _,_,_,_,_,_,_,_,_,_,_,_,_,_,_,_,_,_,_,_,_,_,_,_,_,_,_,_,_,_,_,_,_,_,_,_,_,_,_,_,_,_,_,_,_,_,_,_,_,_,_,_,_,_,_,_,_,_,_,_,_,_,_,_,_,_,_,_,_,_,_,_,_,_,_,_,_,_,_,_,_,_,_,_,_,_,_,_,_,_,_,_,_,_,_,_,_,_,_,_,_,_,_,_,_,_,_,_,_,_,_,_,_,_,_,_,_,_,_,_], []⟩) rfl rfl rfl rfl ?_
              refine EndsOps.nil ?_
              exact ⟨_, (by omega), i + 1, (o ++ [⟨e25.nm, N66, (diffE e25.tx e27.tx)⟩]), v87, (by kernel_rfl), hO89, rfl, hol92, by omega, ne96, (by rw [diffOf_more he26 he28 (fun hh => h29 hh.2)]; rw [List.map_append, hkey]; rfl), (by first | omega | (rw [List.length_append]; simp only [List.length_singleton]; omega))⟩
          · skip
            refine W.op (v := .bool false) (fr1 := ⟨[_,_,_,_,_,_,_,_,_,_,_,_,_,_,_,_,_,_,_,_,_,_,_,_,_,_,_,_,_,_,_,_,_,_,_,_,_,_,_,_,_,_,_,_,_,_,_, .bool false, _,_,_,_,_,_,_,_,_,_,_,_,_,_,_,_,_,_,_,_,_,_,_,_,_,_,_,_,_,_,_,_,_,_,_,_,_,_,_,_,_,_,_,_,_,_,_,_,_,_,_,_,_,_,_,_,_,_,_,_,_,_,_,_,_,_,_,_,_,_,_,_,_,_,_,_,_,_,_,_,_], []⟩) rfl (p_bin (ltF h24)) rfl rfl ?_
            refine EndsOps.nil ?_
            refine Ends.condF rfl ?_
            refine Ends.exit ?_
            refine W.outT rfl ?_
            refine Ends.seq ?_
            refine Ends.region ?_
            refine W.op (v := v) (fr1 := ⟨[_,_,_,_,_,_,_,_,_,_,_,_,_,_,_,_,_,_,_,_,_,_,_,_,_,_,_,_,_,_,_,_,_,_,_,_,_,_,_,_,_,_,_,_,_,_,_,_,_,_,_,_,_,_,_,_,_,_,_,_,_,_,_,_,_,_,_,_,_,_,_,_,_,_,_,_,_,_,_,_,_,_,_,_,_,_,_,_,_,_,_,_,_,_,_,_,_,_,_,_,_,_,_,_,_,_,_,_,_,_,_,_,_,_,_,_,_,_,_,_,_,_,_,_,_,_,_,_, v], []⟩) rfl rfl rfl rfl ?_
            refine W.op (v := v) (fr1 := ⟨[_,_,_,_, v, _,_,_,_,_,_,_,_,_,_,_,_,_,_,_,_,_,_,_,_,_,_,_,_,_,_,_,_,_,_,_,_,_,_,_,_,_,_,_,_,_,_,_,_,_,_,_,_,_,_,_,_,_,_,_,_,_,_,_,_,_,_,_,_,_,_,_,_,_,_,_,_,_,_,_,_,_,_,_,_,_,_,_,_,_,_,_,_,_,_,_,_,_,_,_,_,_,_,_,_,_,_,_,_,_,_,_,_,_,_,_,_,_,_,_,_,_,_,_,_,_,_,_,_], []⟩) rfl rfl rfl rfl ?_
            refine W.op (v := .int .i64 0) (fr1 := ⟨[_,_,_,_,_, .int .i64 0, _,_,_,_,_,_,_,_,_,_,_,_,_,_,_,_,_,_,_,_,_,_,_,_,_,_,_,_,_,_,_,_,_,_,_,_,_,_,_,_,_,_,_,_,_,_,_,_,_,_,_,_,_,_,_,_,_,_,_,_,_,_,_,_,_,_,_,_,_,_,_,_,_,_,_,_,_,_,_,_,_,_,_,_,_,_,_,_,_,_,_,_,_,_,_,_,_,_,_,_,_,_,_,_,_,_,_,_,_,_,_,_,_,_,_,_,_,_,_,_,_,_,_], []⟩) rfl rfl rfl rfl ?_
            refine EndsOps.nil ?_
            refine Ends.ret ?_
            exact ⟨rfl, rfl, hO21, ⟨fun _ => ⟨_, _, rfl, hol23, hne, (by rw [hkey, show i = a.length by omega, List.take_length]; rw [show a.length = b.length by omega, List.take_length])⟩, fun h => absurd ⟨h1, h5⟩ h, fun h => absurd hnm h.2.2⟩⟩
      · skip
        refine W.op (v := .bool true) (fr1 := ⟨[_,_,_,_,_,_,_,_,_,_,_,_,_,_,_,_,_,_,_,_,_,_,_,_,_,_, .bool true, _,_,_,_,_,_,_,_,_,_,_,_,_,_,_,_,_,_,_,_,_,_,_,_,_,_,_,_,_,_,_,_,_,_,_,_,_,_,_,_,_,_,_,_,_,_,_,_,_,_,_,_,_,_,_,_,_,_,_,_,_,_,_,_,_,_,_,_,_,_,_,_,_,_,_,_,_,_,_,_,_,_,_,_,_,_,_,_,_,_,_,_,_,_,_,_,_,_,_,_,_,_], []⟩) rfl (p_bin (neT h9)) rfl rfl ?_
        refine EndsOps.nil ?_
        refine Ends.condT rfl ?_
        refine Ends.seq ?_
        refine Ends.region ?_
        refine W.op (v := .slice none 0 0) (fr1 := ⟨[_,_,_,_, .slice none 0 0, _,_,_,_,_,_,_,_,_,_,_,_,_,_,_,_,_,_,_,_,_,_,_,_,_,_,_,_,_,_,_,_,_,_,_,_,_,_,_,_,_,_,_,_,_,_,_,_,_,_,_,_,_,_,_,_,_,_,_,_,_,_,_,_,_,_,_,_,_,_,_,_,_,_,_,_,_,_,_,_,_,_,_,_,_,_,_,_,_,_,_,_,_,_,_,_,_,_,_,_,_,_,_,_,_,_,_,_,_,_,_,_,_,_,_,_,_,_,_,_,_,_,_,_], []⟩) rfl rfl rfl rfl ?_
        refine W.op (v := .int .i64 5) (fr1 := ⟨[_,_,_,_,_, .int .i64 5, _,_,_,_,_,_,_,_,_,_,_,_,_,_,_,_,_,_,_,_,_,_,_,_,_,_,_,_,_,_,_,_,_,_,_,_,_,_,_,_,_,_,_,_,_,_,_,_,_,_,_,_,_,_,_,_,_,_,_,_,_,_,_,_,_,_,_,_,_,_,_,_,_,_,_,_,_,_,_,_,_,_,_,_,_,_,_,_,_,_,_,_,_,_,_,_,_,_,_,_,_,_,_,_,_,_,_,_,_,_,_,_,_,_,_,_,_,_,_,_,_,_,_], []⟩) rfl rfl rfl rfl ?_
        refine EndsOps.nil ?_
        refine Ends.ret ?_
        exact ⟨rfl, rfl, hO7, ⟨fun hh => absurd hh.2.2 (fun hn => h9 (by rw [hn.1])), fun hh => absurd ⟨h1, h5⟩ hh, fun _ => rfl⟩⟩
    · skip
      refine W.call (ar := [.slice ab b.length cb]) (X := .bool false) (fr1 := ⟨[_,_,_,_,_,_,_,_,_,_,_,_,_,_,_,_,_,_,_, .bool false, _,_,_,_,_,_,_,_,_,_,_,_,_,_,_,_,_,_,_,_,_,_,_,_,_,_,_,_,_,_,_,_,_,_,_,_,_,_,_,_,_,_,_,_,_,_,_,_,_,_,_,_,_,_,_,_,_,_,_,_,_,_,_,_,_,_,_,_,_,_,_,_,_,_,_,_,_,_,_,_,_,_,_,_,_,_,_,_,_,_,_,_,_,_,_,_,_,_,_,_,_,_,_,_,_,_,_,_,_], []⟩) hO3 rfl rfl rfl rfl ((c49 _ _ _ _ _ _ _ _ Kb _ (Hb.own hO3)).mono fun v _ _ h => h.trans (congrArg Value.bool (decide_eq_false h5))) rfl ?_
      intro s97 hO98 hS99
      refine W.op (v := .bool true) (fr1 := ⟨[_,_,_,_,_,_,_,_,_,_,_,_,_,_,_,_,_,_,_,_, .bool true, _,_,_,_,_,_,_,_,_,_,_,_,_,_,_,_,_,_,_,_,_,_,_,_,_,_,_,_,_,_,_,_,_,_,_,_,_,_,_,_,_,_,_,_,_,_,_,_,_,_,_,_,_,_,_,_,_,_,_,_,_,_,_,_,_,_,_,_,_,_,_,_,_,_,_,_,_,_,_,_,_,_,_,_,_,_,_,_,_,_,_,_,_,_,_,_,_,_,_,_,_,_,_,_,_,_,_,_], []⟩) rfl rfl rfl rfl ?_
      refine W.op (v := .bool true) (fr1 := ⟨[_,_,_,_,_,_,_,_,_,_,_,_,_,_,_,_,_,_,_,_,_, .bool true, _,_,_,_,_,_,_,_,_,_,_,_,_,_,_,_,_,_,_,_,_,_,_,_,_,_,_,_,_,_,_,_,_,_,_,_,_,_,_,_,_,_,_,_,_,_,_,_,_,_,_,_,_,_,_,_,_,_,_,_,_,_,_,_,_,_,_,_,_,_,_,_,_,_,_,_,_,_,_,_,_,_,_,_,_,_,_,_,_,_,_,_,_,_,_,_,_,_,_,_,_,_,_,_,_,_,_], []⟩) rfl rfl rfl rfl ?_
      refine EndsOps.nil ?_
      refine Ends.condT rfl ?_
      refine Ends.seq ?_
      refine Ends.region ?_
      refine W.op (v := .slice none 0 0) (fr1 := ⟨[_,_,_,_, .slice none 0 0, _,_,_,_,_,_,_,_,_,_,_,_,_,_,_,_,_,_,_,_,_,_,_,_,_,_,_,_,_,_,_,_,_,_,_,_,_,_,_,_,_,_,_,_,_,_,_,_,_,_,_,_,_,_,_,_,_,_,_,_,_,_,_,_,_,_,_,_,_,_,_,_,_,_,_,_,_,_,_,_,_,_,_,_,_,_,_,_,_,_,_,_,_,_,_,_,_,_,_,_,_,_,_,_,_,_,_,_,_,_,_,_,_,_,_,_,_,_,_,_,_,_,_,_], []⟩) rfl rfl rfl rfl ?_
      refine W.op (v := .int .i64 2) (fr1 := ⟨[_,_,_,_,_, .int .i64 2, _,_,_,_,_,_,_,_,_,_,_,_,_,_,_,_,_,_,_,_,_,_,_,_,_,_,_,_,_,_,_,_,_,_,_,_,_,_,_,_,_,_,_,_,_,_,_,_,_,_,_,_,_,_,_,_,_,_,_,_,_,_,_,_,_,_,_,_,_,_,_,_,_,_,_,_,_,_,_,_,_,_,_,_,_,_,_,_,_,_,_,_,_,_,_,_,_,_,_,_,_,_,_,_,_,_,_,_,_,_,_,_,_,_,_,_,_,_,_,_,_,_,_], []⟩) rfl rfl rfl rfl ?_
      refine EndsOps.nil ?_
      refine Ends.ret ?_
      exact ⟨rfl, rfl, hO98, ⟨fun h => absurd h.2.1 h5, fun _ => rfl, fun h => absurd h.2.1 h5⟩⟩
  · skip
    refine W.call (ar := [.slice aa a.length ca]) (X := .bool false) (fr1 := ⟨[_,_,_,_,_,_,_,_,_,_,_,_,_,_,_, .bool false, _,_,_,_,_,_,_,_,_,_,_,_,_,_,_,_,_,_,_,_,_,_,_,_,_,_,_,_,_,_,_,_,_,_,_,_,_,_,_,_,_,_,_,_,_,_,_,_,_,_,_,_,_,_,_,_,_,_,_,_,_,_,_,_,_,_,_,_,_,_,_,_,_,_,_,_,_,_,_,_,_,_,_,_,_,_,_,_,_,_,_,_,_,_,_,_,_,_,_,_,_,_,_,_,_,_,_,_,_,_,_,_,_], []⟩) hO0 rfl rfl rfl rfl ((c49 _ _ _ _ _ _ _ _ Ka _ (Ha.own hO0)).mono fun v _ _ h => h.trans (congrArg Value.bool (decide_eq_false h1))) rfl ?_
    intro s100 hO101 hS102
    refine W.op (v := .bool true) (fr1 := ⟨[_,_,_,_,_,_,_,_,_,_,_,_,_,_,_,_, .bool true, _,_,_,_,_,_,_,_,_,_,_,_,_,_,_,_,_,_,_,_,_,_,_,_,_,_,_,_,_,_,_,_,_,_,_,_,_,_,_,_,_,_,_,_,_,_,_,_,_,_,_,_,_,_,_,_,_,_,_,_,_,_,_,_,_,_,_,_,_,_,_,_,_,_,_,_,_,_,_,_,_,_,_,_,_,_,_,_,_,_,_,_,_,_,_,_,_,_,_,_,_,_,_,_,_,_,_,_,_,_,_,_], []⟩) rfl rfl rfl rfl ?_
    refine W.op (v := .bool true) (fr1 := ⟨[_,_,_,_,_,_,_,_,_,_,_,_,_,_,_,_,_, .bool true, _,_,_,_,_,_,_,_,_,_,_,_,_,_,_,_,_,_,_,_,_,_,_,_,_,_,_,_,_,_,_,_,_,_,_,_,_,_,_,_,_,_,_,_,_,_,_,_,_,_,_,_,_,_,_,_,_,_,_,_,_,_,_,_,_,_,_,_,_,_,_,_,_,_,_,_,_,_,_,_,_,_,_,_,_,_,_,_,_,_,_,_,_,_,_,_,_,_,_,_,_,_,_,_,_,_,_,_,_,_,_], []⟩) rfl rfl rfl rfl ?_
    refine W.skip (fr1 := ⟨[_,_,_,_,_,_,_,_,_,_,_,_,_,_,_,_,_,_, undef, _,_,_,_,_,_,_,_,_,_,_,_,_,_,_,_,_,_,_,_,_,_,_,_,_,_,_,_,_,_,_,_,_,_,_,_,_,_,_,_,_,_,_,_,_,_,_,_,_,_,_,_,_,_,_,_,_,_,_,_,_,_,_,_,_,_,_,_,_,_,_,_,_,_,_,_,_,_,_,_,_,_,_,_,_,_,_,_,_,_,_,_,_,_,_,_,_,_,_,_,_,_,_,_,_,_,_,_,_,_], []⟩) rfl rfl ?_
    refine W.skip (fr1 := ⟨[_,_,_,_,_,_,_,_,_,_,_,_,_,_,_,_,_,_,_, undef, _,_,_,_,_,_,_,_,_,_,_,_,_,_,_,_,_,_,_,_,_,_,_,_,_,_,_,_,_,_,_,_,_,_,_,_,_,_,_,_,_,_,_,_,_,_,_,_,_,_,_,_,_,_,_,_,_,_,_,_,_,_,_,_,_,_,_,_,_,_,_,_,_,_,_,_,_,_,_,_,_,_,_,_,_,_,_,_,_,_,_,_,_,_,_,_,_,_,_,_,_,_,_,_,_,_,_,_,_], []⟩) rfl rfl ?_
    refine W.skip (fr1 := ⟨[_,_,_,_,_,_,_,_,_,_,_,_,_,_,_,_,_,_,_,_, undef, _,_,_,_,_,_,_,_,_,_,_,_,_,_,_,_,_,_,_,_,_,_,_,_,_,_,_,_,_,_,_,_,_,_,_,_,_,_,_,_,_,_,_,_,_,_,_,_,_,_,_,_,_,_,_,_,_,_,_,_,_,_,_,_,_,_,_,_,_,_,_,_,_,_,_,_,_,_,_,_,_,_,_,_,_,_,_,_,_,_,_,_,_,_,_,_,_,_,_,_,_,_,_,_,_,_,_,_], []⟩) rfl rfl ?_
    refine W.op (v := .bool true) (fr1 := ⟨[_,_,_,_,_,_,_,_,_,_,_,_,_,_,_,_,_,_,_,_,_, .bool true, _,_,_,_,_,_,_,_,_,_,_,_,_,_,_,_,_,_,_,_,_,_,_,_,_,_,_,_,_,_,_,_,_,_,_,_,_,_,_,_,_,_,_,_,_,_,_,_,_,_,_,_,_,_,_,_,_,_,_,_,_,_,_,_,_,_,_,_,_,_,_,_,_,_,_,_,_,_,_,_,_,_,_,_,_,_,_,_,_,_,_,_,_,_,_,_,_,_,_,_,_,_,_,_,_,_,_], []⟩) rfl rfl rfl rfl ?_
    refine EndsOps.nil ?_
    refine Ends.condT rfl ?_
    refine Ends.seq ?_
    refine Ends.region ?_
    refine W.op (v := .slice none 0 0) (fr1 := ⟨[_,_,_,_, .slice none 0 0, _,_,_,_,_,_,_,_,_,_,_,_,_,_,_,_,_,_,_,_,_,_,_,_,_,_,_,_,_,_,_,_,_,_,_,_,_,_,_,_,_,_,_,_,_,_,_,_,_,_,_,_,_,_,_,_,_,_,_,_,_,_,_,_,_,_,_,_,_,_,_,_,_,_,_,_,_,_,_,_,_,_,_,_,_,_,_,_,_,_,_,_,_,_,_,_,_,_,_,_,_,_,_,_,_,_,_,_,_,_,_,_,_,_,_,_,_,_,_,_,_,_,_,_], []⟩) rfl rfl rfl rfl ?_
    refine W.op (v := .int .i64 2) (fr1 := ⟨[_,_,_,_,_, .int .i64 2, _,_,_,_,_,_,_,_,_,_,_,_,_,_,_,_,_,_,_,_,_,_,_,_,_,_,_,_,_,_,_,_,_,_,_,_,_,_,_,_,_,_,_,_,_,_,_,_,_,_,_,_,_,_,_,_,_,_,_,_,_,_,_,_,_,_,_,_,_,_,_,_,_,_,_,_,_,_,_,_,_,_,_,_,_,_,_,_,_,_,_,_,_,_,_,_,_,_,_,_,_,_,_,_,_,_,_,_,_,_,_,_,_,_,_,_,_,_,_,_,_,_,_], []⟩) rfl rfl rfl rfl ?_
    refine EndsOps.nil ?_
    refine Ends.ret ?_
    exact ⟨rfl, rfl, hO101, ⟨fun h => absurd h.1 h1, fun _ => rfl, fun h => absurd h.1 h1⟩⟩
end Go.Ev.R1

