/-
  EV: the one list of two: bounds, in plain Lean.
-/
import Derived.Test.YtelpkdjibjddlaaEvJ4
import Derived.Test.YtelpkdjibjddlaaEvKeep
set_option linter.unusedSimpArgs false
set_option linter.unusedVariables false
namespace Go.Sx
open Go Go.Ev
theorem growS_cons (e : Ed) (r : List Ed) : growS (e :: r) = (((B e.tx).length : Nat) : Int) - (e.hi - e.lo) + growS r := by simp [growS]
theorem sumT_cons (e : Ed) (r : List Ed) : sumT (e :: r) = (B e.tx).length + sumT r := by simp [sumT]
theorem chain_len {n : Int} : ∀ (l : List Ed) (a : Int),Chain l a n → ((fromR l a n).length : Int) = n - a + growS l
  | [],a,h => by
    have h : a ≤ n := h
    show ((upTo a n).length : Int) = _
    rw [upTo_len]; simp [growS]; omega
  | e :: r,a,h => by
    obtain ⟨h1,h2,h3,h4⟩ := h
    have ih := chain_len r e.hi h4
    rw [fromR,List.length_append,List.length_append,upTo_len,List.length_replicate,growS_cons]
    omega
theorem chain_grow {n : Int} : ∀ (l : List Ed) (a : Int),Chain l a n → growS l ≤ sumT l
  | [],a,h => by simp [growS]
  | e :: r,a,h => by
    obtain ⟨h1,h2,h3,h4⟩ := h
    have ih := chain_grow r e.hi h4
    rw [growS_cons,sumT_cons]; omega
theorem from_len {l : List Ed} {n : Int} (hR : Right l n) : ((fromS l n).length : Int) = n + growS l := by
  rw [fromS_R,chain_len l 0 hR.chain]; omega
theorem grow_bd {l : List Ed} {n : Int} (hR : Right l n) : 0 ≤ n ∧ 0 ≤ n + growS l ∧ growS l ≤ sumT l := by
  have h1 := from_len hR
  have h2 := chain_grow l 0 hR.chain
  exact ⟨hR.1,by omega,h2⟩
theorem from_mem {n : Int} : ∀ (l : List Ed) (a : Int),Chain l a n → 0 ≤ a → ∀ x ∈ fromR l a n,x = -1 ∨ (a ≤ x ∧ x < n)
  | [],a,h,h0,x,hx => by
    have h : a ≤ n := h
    simp only [fromR,upTo,List.mem_map,List.mem_range] at hx
    obtain ⟨k,hk,rfl⟩ := hx
    right; omega
  | e :: r,a,h,h0,x,hx => by
    obtain ⟨h1,h2,h3,h4⟩ := h
    simp only [fromR,List.mem_append] at hx
    rcases hx with (hx | hx) | hx
    · simp only [upTo,List.mem_map,List.mem_range] at hx
      obtain ⟨k,hk,rfl⟩ := hx
      right; omega
    · exact .inl (List.eq_of_mem_replicate hx)
    · rcases from_mem r e.hi h4 (by omega) x hx with h | h
      · exact .inl h
      · right; omega
theorem from_at {l : List Ed} {n x : Int} {k : Nat} (hR : Right l n) (h : (fromS l n)[k]? = some x) : x = -1 ∨ (0 ≤ x ∧ x < n) := by
  rw [fromS_R] at h
  exact from_mem l 0 hR.chain (Int.le_refl _) x (List.mem_of_getElem? h)
theorem go_bd {l : List Ed} {n q : Int} (hR : Right l n) (hn : n ≤ 1000) (hT : sumT l ≤ 1000) (h : (goS l n q).2 = 0) : 0 ≤ q ∧ ∃ i : Nat,(goS l n q).1 = (i : Int) ∧ (fromS l n)[i]? = some q ∧ (i : Int) < n + growS l := by
  rw [goS_eq hR hn hT] at h ⊢
  unfold rgoS at h ⊢
  split at h
  · rename_i i hi
    rw [List.findIdx?_eq_some_iff_getElem] at hi
    obtain ⟨h1,h2,_⟩ := hi
    simp only [decide_eq_true_eq] at h2
    have hl := from_len hR
    refine ⟨h2.2,i,rfl,?_,by omega⟩
    rw [List.getElem?_eq_getElem h1,h2.1]
  · exact absurd h (by decide)
theorem ca_bd {l : List Ed} {n q : Int} (hR : Right l n) (hn : n ≤ 1000) (hT : sumT l ≤ 1000) (h : (caS l n q).2 = 0) : 0 ≤ q ∧ (fromS l n)[q.toNat]? = some (caS l n q).1 ∧ 0 ≤ (caS l n q).1 ∧ (caS l n q).1 < n := by
  rw [caS_eq hR hn hT] at h ⊢
  unfold rcaS at h ⊢
  by_cases hq : q < 0
  · rw [if_pos hq] at h; exact absurd h (by decide)
  · rw [if_neg hq] at h ⊢
    cases hx : (fromS l n)[q.toNat]? with
    | none => rw [hx] at h; exact absurd h (by decide)
    | some x =>
      rw [hx] at h
      simp only at h ⊢
      by_cases h0 : x < 0
      · rw [if_pos h0] at h; exact absurd h (by decide)
      · rw [if_neg h0]
        have := from_at hR hx
        exact ⟨by omega,rfl,by show 0 ≤ x; omega,by show x < n; omega⟩
def spansR : List Ed → Int → List Sp
  | [],_ => []
  | e :: r,b => ⟨e.lo + b,e.lo + b + (((B e.tx).length : Nat) : Int)⟩ :: spansR r (b + ((((B e.tx).length : Nat) : Int) - (e.hi - e.lo)))
theorem spans_R {n : Int} (hn : n ≤ 1000) : ∀ (l : List Ed) (p : List Sp) (a b : Int) (S : Nat),Chain l a n → 0 ≤ a → 0 ≤ a + b → b ≤ S → S + sumT l ≤ 1000 → (l.foldl spanStep (p,b)).1 = p ++ spansR l b
  | [],p,a,b,S,_,_,_,_,_ => by simp [spansR]
  | e :: r,p,a,b,S,hc,h0,h1,h2,h3 => by
    obtain ⟨c1,c2,c3,c4⟩ := hc
    rw [sumT_cons] at h3
    rw [List.foldl_cons,spanStep]
    simp only
    rw [W_id (x := e.lo + b) (by omega) (by omega),W_id (x := e.hi - e.lo) (by omega) (by omega),W_id (x := (((B e.tx).length : Nat) : Int) - (e.hi - e.lo)) (by omega) (by omega),W_id (x := b + _) (by omega) (by omega),W_id (x := e.lo + b + _) (by omega) (by omega)]
    rw [spans_R hn r _ e.hi _ (S + (B e.tx).length) c4 (by omega) (by omega) (by omega) (by omega),spansR,List.append_assoc]
    rfl
theorem spansS_R {l : List Ed} {n : Int} (hR : Right l n) (hn : n ≤ 1000) (hT : sumT l ≤ 1000) : spansS l = spansR l 0 := by
  have := spans_R hn l [] 0 0 0 hR.chain (by omega) (by omega) (by omega) (by omega)
  rw [List.nil_append] at this; exact this
theorem spansR_at {n : Int} (hn : n ≤ 1000) : ∀ (l : List Ed) (a b : Int) (S : Nat),Chain l a n → 0 ≤ a → 0 ≤ a + b → b ≤ S → S + sumT l ≤ 1000 → ∀ (i : Nat) (e : Ed) (p : Sp),l[i]? = some e → (spansR l b)[i]? = some p → p.b = p.a + ((B e.tx).length : Nat) ∧ 0 ≤ p.a ∧ p.b ≤ 2000000
  | [],a,b,S,_,_,_,_,_,i,e,p,he,_ => by simp at he
  | d :: r,a,b,S,hc,h0,h1,h2,h3,i,e,p,he,hp => by
    obtain ⟨c1,c2,c3,c4⟩ := hc
    rw [sumT_cons] at h3
    rw [spansR] at hp
    cases i with
    | zero =>
      simp at he hp; subst he hp
      have := c4.le
      refine ⟨rfl,?_,?_⟩
      · show 0 ≤ d.lo + b; omega
      · show d.lo + b + _ ≤ _; omega
    | succ i =>
      simp at he hp
      exact spansR_at hn r d.hi _ (S + (B d.tx).length) c4 (by omega) (by omega) (by omega) (by omega) i e p he hp
theorem spansR_len : ∀ (l : List Ed) (b : Int),(spansR l b).length = l.length
  | [],_ => rfl
  | e :: r,b => by rw [spansR,List.length_cons,spansR_len r,List.length_cons]
theorem span_ok {l : List Ed} {n : Int} (hR : Right l n) (hn : n ≤ 1000) (hT : sumT l ≤ 1000) (hl : l.length ≤ 1000) : SpanOk l (spansS l) := by
  rw [spansS_R hR hn hT]
  exact ⟨(spansR_len l 0).symm,hl,by omega,spansR_at hn l 0 0 0 hR.chain (by omega) (by omega) (by omega) (by omega)⟩
theorem kept_len : ∀ (rs : List Run),(∀ r ∈ rs,0 ≤ r.fr ∧ r.to ≤ 500) → (keptOf rs).length ≤ rs.length * 500
  | [],_ => Nat.zero_le _
  | r :: rs,h => by
    have ih := kept_len rs fun x hx => h x (List.mem_cons_of_mem _ hx)
    have h0 := h r (List.mem_cons_self ..)
    have : keptOf (r :: rs) = runPairs r ++ keptOf rs := by simp [keptOf]
    rw [this,List.length_append,runPairs_len,List.length_cons]
    omega
theorem keptS_len {l : List Ed} {n : Int} (hR : Right l n) (hn : n ≤ 500) (hl : l.length ≤ 31) : (keptS l n).length ≤ 16000 := by
  have := kept_len (runsS l n) fun r hr => by
    obtain ⟨i,hi⟩ := List.mem_iff_getElem?.1 hr
    have := runIn hR hi
    exact ⟨this.1,by omega⟩
  rw [runsS_len] at this
  unfold keptS
  omega
def gapPut (la : List Ed) (sa : List Sp) (lb : List Ed) (sb : List Sp) (n : Int) (out : List Ed) (x y u v : Int) : List Ed := if GapIs la sa lb sb n x y u v then out ++ [gapE la sa lb sb n x y u v] else out
def joinStep (a b : List Ed) (n : Int) (st : List Ed × Int × Int) (p : Int × Int) : List Ed × Int × Int := if (goS b n p.2).2 = 0 then (gapPut a (spansS a) b (spansS b) n st.1 st.2.1 p.1 st.2.2 (goS b n p.2).1,p.1 + 1,(goS b n p.2).1 + 1) else st
def joinF (a b : List Ed) (n : Int) (ps : List (Int × Int)) : List Ed × Int × Int := ps.foldl (joinStep a b n) ([],0,0)
def joinS (a b : List Ed) (n : Int) : List Ed := gapPut a (spansS a) b (spansS b) (n + growS a) (joinF a b (n + growS a) (keptS a n)).1 (joinF a b (n + growS a) (keptS a n)).2.1 n (joinF a b (n + growS a) (keptS a n)).2.2 (n + growS a + growS b)
structure JOk (a b : List Ed) (n : Int) : Prop where
  la : a.length ≤ 31
  lb : b.length ≤ 31
  sa : sumT a ≤ 500
  sb : sumT b ≤ 500
  n : n ≤ 500
theorem joinF_step {a b : List Ed} {n : Int} {ps : List (Int × Int)} {k : Nat} {p : Int × Int} (h : ps[k]? = some p) : joinF a b n (ps.take (k + 1)) = joinStep a b n (joinF a b n (ps.take k)) p := foldl_step h
theorem join_bd {a b : List Ed} {n : Int} (hj : JOk a b n) (hR : Right a n) (hRb : Right b (n + growS a)) : ∀ k,k ≤ (keptS a n).length →
    (0 ≤ (joinF a b (n + growS a) ((keptS a n).take k)).2.1 ∧ (joinF a b (n + growS a) ((keptS a n).take k)).2.1 ≤ 500) ∧ (0 ≤ (joinF a b (n + growS a) ((keptS a n).take k)).2.2 ∧ (joinF a b (n + growS a) ((keptS a n).take k)).2.2 ≤ 2000) ∧ (joinF a b (n + growS a) ((keptS a n).take k)).1.length ≤ k
  | 0,_ => by
    have : joinF a b (n + growS a) ((keptS a n).take 0) = ([],0,0) := rfl
    rw [this]; exact ⟨⟨by decide,by decide⟩,⟨by decide,by decide⟩,Nat.le_refl _⟩
  | k + 1,hk => by
    obtain ⟨h1,h2,h3⟩ := join_bd hj hR hRb k (by omega)
    obtain ⟨p,hp⟩ := ex_at (l := keptS a n) (i := k) (by omega)
    rw [joinF_step hp]
    generalize joinF a b (n + growS a) ((keptS a n).take k) = st at *
    have hp0 := kept_fst hR p (List.mem_of_getElem? hp)
    have hg := grow_bd hR
    have hgb := grow_bd hRb
    have e1 := hj.n
    have e2 := hj.sa
    have e3 := hj.sb
    unfold joinStep
    split
    · rename_i h0
      obtain ⟨_,i,gi,_,glt⟩ := go_bd hRb (by omega) (by omega) h0
      refine ⟨?_,?_,?_⟩
      · show 0 ≤ p.1 + 1 ∧ p.1 + 1 ≤ 500; omega
      · show 0 ≤ (goS b (n + growS a) p.2).1 + 1 ∧ (goS b (n + growS a) p.2).1 + 1 ≤ 2000; omega
      · show (gapPut a (spansS a) b (spansS b) (n + growS a) st.1 st.2.1 p.1 st.2.2 (goS b (n + growS a) p.2).1).length ≤ k + 1
        unfold gapPut
        split
        · rw [List.length_append]; show st.1.length + 1 ≤ _; omega
        · omega
    · exact ⟨h1,h2,by omega⟩
theorem gap_ok {a b : List Ed} {n : Int} (hj : JOk a b n) (hR : Right a n) (hRb : Right b (n + growS a)) {u v : Int} (hu : 0 ≤ u) (hv : v ≤ 2000) : GapOk a (spansS a) b (spansS b) (n + growS a) u v := by
  have hg := grow_bd hR
  have e0 := hj.la
  have e4 := hj.lb
  have e1 := hj.n
  have e2 := hj.sa
  have e3 := hj.sb
  exact ⟨span_ok hR (by omega) (by omega) (by omega),span_ok hRb (by omega) (by omega) (by omega),hRb,by omega,by omega,fun q h => by
    obtain ⟨_,_,h1,h2⟩ := ca_bd hRb (by omega) (by omega) h
    omega⟩
theorem join_go {a b : List Ed} {n : Int} {st : List Ed × Int × Int} {p : Int × Int} (h : (goS b n p.2).2 = 0) : joinStep a b n st p = (gapPut a (spansS a) b (spansS b) n st.1 st.2.1 p.1 st.2.2 (goS b n p.2).1,p.1 + 1,(goS b n p.2).1 + 1) := if_pos h
theorem join_no {a b : List Ed} {n : Int} {st : List Ed × Int × Int} {p : Int × Int} (h : ¬ (goS b n p.2).2 = 0) : joinStep a b n st p = st := if_neg h
theorem gapPut_pos {la : List Ed} {sa : List Sp} {lb : List Ed} {sb : List Sp} {n : Int} {out : List Ed} {x y u v : Int} (h : GapIs la sa lb sb n x y u v) : gapPut la sa lb sb n out x y u v = out ++ [gapE la sa lb sb n x y u v] := if_pos h
theorem gapPut_neg {la : List Ed} {sa : List Sp} {lb : List Ed} {sb : List Sp} {n : Int} {out : List Ed} {x y u v : Int} (h : ¬ GapIs la sa lb sb n x y u v) : gapPut la sa lb sb n out x y u v = out := if_neg h
theorem kpos_le {rs : List Run} {i : Nat} : kpos rs i ≤ (keptOf rs).length := by
  have : keptOf rs = keptOf (rs.take i) ++ keptOf (rs.drop i) := by
    unfold keptOf
    rw [← List.flatten_append,← List.map_append,List.take_append_drop]
  rw [this,List.length_append]; unfold kpos; omega
theorem join_in {a b : List Ed} {n : Int} (hj : JOk a b n) (hR : Right a n) (hRb : Right b (n + growS a)) {i j : Nat} {r : Run} (hr : (runsS a n)[i]? = some r) (hj1 : r.fr + (j : Int) ≤ r.to) {out : List Ed} {x u : Int} (hst : (out,x,u) = joinF a b (n + growS a) ((keptS a n).take (kpos (runsS a n) i + j))) : (0 ≤ x ∧ x ≤ 500) ∧ (0 ≤ u ∧ u ≤ 2000) ∧ out.length ≤ 16000 := by
  have h1 := kpos_step hr
  have h2 := kpos_le (rs := runsS a n) (i := i + 1)
  have h3 := keptS_len hR hj.n hj.la
  unfold keptS at h3
  have h4 := join_bd hj hR hRb (kpos (runsS a n) i + j) (by unfold keptS; omega)
  rw [← hst] at h4
  obtain ⟨h5,h6,h7⟩ := h4
  exact ⟨h5,h6,by simp only at h7; omega⟩
theorem join_at {a b : List Ed} {n : Int} {i j : Nat} {r : Run} (hr : (runsS a n)[i]? = some r) (hj1 : r.fr + (j : Int) < r.to) {st : List Ed × Int × Int} (hst : st = joinF a b (n + growS a) ((keptS a n).take (kpos (runsS a n) i + j))) : joinF a b (n + growS a) ((keptS a n).take (kpos (runsS a n) i + (j + 1))) = joinStep a b (n + growS a) st (r.fr + (j : Int),wr .i64 (r.fr + (j : Int) + r.by')) := by
  have hk := kept_at hr (p := r.fr + (j : Int)) (by omega) hj1
  rw [show (r.fr + (j : Int) - r.fr).toNat = j by omega] at hk
  replace hk : (keptS a n)[kpos (runsS a n) i + j]? = some (r.fr + (j : Int),W (r.fr + (j : Int) + r.by')) := hk
  rw [← Nat.add_assoc,joinF_step hk,← hst]
  rfl
theorem join_end {a b : List Ed} {n : Int} {i : Nat} (hi : i ≤ (runsS a n).length) (h : (runsS a n).length ≤ i) {out : List Ed} {x u : Int} (hst : (out,x,u) = joinF a b (n + growS a) ((keptS a n).take (kpos (runsS a n) i))) : joinS a b n = gapPut a (spansS a) b (spansS b) (n + growS a) out x n u (n + growS a + growS b) := by
  have : i = (runsS a n).length := Nat.le_antisymm hi h
  subst this
  rw [kpos_all,show (keptOf (runsS a n)).length = (keptS a n).length from rfl,List.take_length] at hst
  unfold joinS
  rw [← hst]
end Go.Sx

