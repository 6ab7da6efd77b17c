/-
  EV: patches of a workspace, in plain Lean: what the layer files does with them, by the program and by the document.
-/
import Derived.Test.YtelpkdjibjddlaaEvFiles
import Derived.Test.YtelpkdjibjddlaaEvApplyLaw
namespace Go.Ev
open Go Go.RowKit
structure Pt where
  nm : ByteArray
  es : List Ed
theorem place_spec {l : List Fl} {x : ByteArray} (h : 0 ≤ placeS l x) : ∃ f,l[(placeS l x).toNat]? = some f ∧ B f.nm = B x := by
  unfold placeS at h ⊢
  split
  · rename_i i hi
    rw [List.findIdx?_eq_some_iff_getElem] at hi
    obtain ⟨h1,h2,_⟩ := hi
    exact ⟨l[i],by simp [h1],by simpa using h2⟩
  · rename_i hi
    rw [hi] at h
    exact absurd h (by decide)
theorem place_lt {l : List Fl} {x : ByteArray} (h : 0 ≤ placeS l x) : (placeS l x).toNat < l.length := by
  obtain ⟨f,h1,_⟩ := place_spec h
  exact (List.getElem?_eq_some_iff.1 h1).1
theorem place_congr {a b : List Fl} (h : a.map (fun f => B f.nm) = b.map (fun f => B f.nm)) (x : ByteArray) : placeS a x = placeS b x := by
  have key : ∀ l : List Fl,l.findIdx? (fun f => decide (B f.nm = B x)) = (l.map fun f => B f.nm).findIdx? (fun y => decide (y = B x)) := fun l => by
    rw [List.findIdx?_map]; rfl
  unfold placeS
  rw [key a,key b,h]
theorem place_name {l : List Fl} {x y : ByteArray} (h : B x = B y) : placeS l x = placeS l y := by unfold placeS; rw [h]
def textOf (l : List Fl) (x : ByteArray) : ByteArray := match l[(placeS l x).toNat]? with
  | some f => f.tx
  | none => ByteArray.empty
theorem textOf_at {l : List Fl} {x : ByteArray} {f : Fl} (h : l[(placeS l x).toNat]? = some f) : textOf l x = f.tx := by unfold textOf; rw [h]
def Twice (ps : List Pt) (k : Nat) (x : ByteArray) : Prop := ∃ (j : Nat) (q : Pt),j < k ∧ ps[j]? = some q ∧ B q.nm = B x
open Classical in
noncomputable def mayAt (l : List Fl) (ps : List Pt) (k : Nat) (p : Pt) : Int :=
  if placeS l p.nm < 0 then 5 else if Twice ps k p.nm then 6 else if ¬ Right p.es (((B (textOf l p.nm)).length : Nat) : Int) then 2 else 0
noncomputable def mayN (l : List Fl) (ps : List Pt) : Nat → Int
  | 0 => 0
  | k + 1 => if mayN l ps k = 0 then match ps[k]? with
    | some p => mayAt l ps k p
    | none => 0
    else mayN l ps k
section
variable {l : List Fl} {ps : List Pt}
theorem mayN_step {k : Nat} {p : Pt} (h : mayN l ps k = 0) (hp : ps[k]? = some p) : mayN l ps (k + 1) = mayAt l ps k p := by
  simp only [mayN,if_pos h,hp]
theorem mayN_stop {i : Nat} (h : ¬ mayN l ps i = 0) : ∀ {j : Nat},i ≤ j → mayN l ps j = mayN l ps i
  | 0, hj => by have : i = 0 := by omega
                subst this; rfl
  | j + 1,hj => by
    by_cases e : i = j + 1
    · subst e; rfl
    · have ih := mayN_stop h (j := j) (by omega)
      have : ¬ mayN l ps j = 0 := by rw [ih]; exact h
      simp only [mayN,if_neg this]; exact ih
theorem mayN_zero {n : Nat} (h : mayN l ps n = 0) {k : Nat} (hk : k ≤ n) : mayN l ps k = 0 := by
  false_or_by_contra
  rename_i hne
  rw [mayN_stop hne hk] at h
  exact hne h
theorem mayN_at {n k : Nat} {p : Pt} (h : mayN l ps n = 0) (hk : k < n) (hp : ps[k]? = some p) : mayAt l ps k p = 0 := by
  rw [← mayN_step (mayN_zero h (Nat.le_of_lt hk)) hp]; exact mayN_zero h hk
theorem mayAt0 {k : Nat} {p : Pt} (h : mayAt l ps k p = 0) : 0 ≤ placeS l p.nm ∧ ¬ Twice ps k p.nm ∧ Right p.es (((B (textOf l p.nm)).length : Nat) : Int) := by
  unfold mayAt at h
  split at h
  · cases h
  · split at h
    · cases h
    · split at h
      · cases h
      · rename_i h1 h2 h3
        exact ⟨by omega,h2,by simpa using h3⟩
theorem mayAt5 {k : Nat} {p : Pt} (h : placeS l p.nm < 0) : mayAt l ps k p = 5 := by unfold mayAt; rw [if_pos h]
theorem mayAt6 {k : Nat} {p : Pt} (h : ¬ placeS l p.nm < 0) (h2 : Twice ps k p.nm) : mayAt l ps k p = 6 := by unfold mayAt; rw [if_neg h,if_pos h2]
theorem mayAt2 {k : Nat} {p : Pt} (h : ¬ placeS l p.nm < 0) (h2 : ¬ Twice ps k p.nm) (h3 : ¬ Right p.es (((B (textOf l p.nm)).length : Nat) : Int)) : mayAt l ps k p = 2 := by unfold mayAt; rw [if_neg h,if_neg h2,if_pos h3]
theorem mayAtOk {k : Nat} {p : Pt} (h : ¬ placeS l p.nm < 0) (h2 : ¬ Twice ps k p.nm) (h3 : Right p.es (((B (textOf l p.nm)).length : Nat) : Int)) : mayAt l ps k p = 0 := by unfold mayAt; rw [if_neg h,if_neg h2,if_neg (fun q => q h3)]
end
theorem appR_len (x : ByteArray) : ∀ (l : List Ed) (a : Int),0 ≤ a → Chain l a (((B x).length : Nat) : Int) → (((appR x l a).length : Nat) : Int) = (((B x).length : Nat) : Int) - a + growS l
  | [],a,h0,hc => by
    have hc : a ≤ (((B x).length : Nat) : Int) := hc
    simp only [appR,List.length_drop,growS,List.map_nil,List.sum_nil]
    omega
  | e :: r,a,h0,hc => by
    obtain ⟨c1,c2,c3,c4⟩ := hc
    have ih := appR_len x r e.hi (by omega) c4
    have hg : growS (e :: r) = (((B e.tx).length : Nat) : Int) - (e.hi - e.lo) + growS r := by simp [growS]
    simp only [appR,List.length_append,List.length_take,List.length_drop,hg]
    omega
theorem ap_len {x : ByteArray} {l : List Ed} (h : Right l (((B x).length : Nat) : Int)) : (((B (apS x l)).length : Nat) : Int) = (((B x).length : Nat) : Int) + growS l := by
  have h1 := ap_R x l [] 0
  rw [List.nil_append] at h1
  have h2 : B (apS x l) = appR x l 0 := by simpa [apS,apF,B] using h1
  rw [h2,appR_len x l 0 (by omega) h.chain]; omega
theorem grow_le : ∀ (l : List Ed),(∀ e ∈ l,e.lo ≤ e.hi) → growS l ≤ sumT l
  | [],_ => by simp [growS,sumT]
  | e :: r,h => by
    have ih := grow_le r fun e he => h e (List.mem_cons_of_mem _ he)
    have he := h e (List.mem_cons_self ..)
    have hg : growS (e :: r) = (((B e.tx).length : Nat) : Int) - (e.hi - e.lo) + growS r := by simp [growS]
    have hs : sumT (e :: r) = (B e.tx).length + sumT r := by simp [sumT]
    rw [hg,hs]; omega
theorem Right.ord {l : List Ed} {n : Int} (h : Right l n) : ∀ e ∈ l,e.lo ≤ e.hi := fun e he => by
  obtain ⟨i,hi⟩ := List.mem_iff_getElem?.1 he
  exact ((h.2 i (List.getElem?_eq_some_iff.1 hi).1 e hi).1).2.1
theorem grow_small {x : ByteArray} {l : List Ed} (h : Right l (((B x).length : Nat) : Int)) (hx : (B x).length ≤ 1000000000) (hT : sumT l ≤ 1000000000) : W (growS l) = growS l ∧ W ((((B x).length : Nat) : Int) + W (growS l)) = (((B x).length : Nat) : Int) + growS l := by
  have h1 := ap_len h
  have h2 := grow_le l h.ord
  have e1 : W (growS l) = growS l := W_id (by omega) (by omega)
  exact ⟨e1,by rw [e1]; exact W_id (by omega) (by omega)⟩
def BigAt (l : List Fl) (p : Pt) : Prop := 4000 < (((B (textOf l p.nm)).length : Nat) : Int) + growS p.es
def Big (l : List Fl) (ps : List Pt) (n : Nat) : Prop := ∃ (k : Nat) (p : Pt),k < n ∧ ps[k]? = some p ∧ BigAt l p
theorem Big.step {l : List Fl} {ps : List Pt} {n : Nat} {p : Pt} (h : ¬ Big l ps n) (hp : ps[n]? = some p) (hn : ¬ BigAt l p) : ¬ Big l ps (n + 1) := fun ⟨k,q,h1,h2,h3⟩ => by
  by_cases e : k = n
  · subst e; rw [hp] at h2; cases h2; exact hn h3
  · exact h ⟨k,q,by omega,h2,h3⟩
theorem Big.mono {l : List Fl} {ps : List Pt} {n m : Nat} (h : Big l ps n) (hm : n ≤ m) : Big l ps m := by
  obtain ⟨k,p,h1,h2⟩ := h
  exact ⟨k,p,by omega,h2⟩
theorem Big.zero {l : List Fl} {ps : List Pt} : ¬ Big l ps 0 := fun ⟨_,_,h,_⟩ => absurd h (Nat.not_lt_zero _)
def outStep (l : List Fl) (o : List Fl) (p : Pt) : List Fl := match o[(placeS l p.nm).toNat]? with
  | some f => o.set (placeS l p.nm).toNat ⟨f.nm,apS (textOf l p.nm) p.es⟩
  | none => o
def outS (l : List Fl) (ps : List Pt) : List Fl := ps.foldl (outStep l) l
theorem out_step {l : List Fl} {ps : List Pt} {k : Nat} {p : Pt} (hp : ps[k]? = some p) : outS l (ps.take (k + 1)) = outStep l (outS l (ps.take k)) p := foldl_step hp
theorem outStep_names (l o : List Fl) (p : Pt) : (outStep l o p).map (fun f => B f.nm) = o.map (fun f => B f.nm) := by
  unfold outStep
  split
  · rename_i f hf
    rw [List.map_set]
    apply List.ext_getElem?
    intro j
    by_cases e : (placeS l p.nm).toNat = j
    · subst e
      obtain ⟨h1,h2⟩ := List.getElem?_eq_some_iff.1 hf
      rw [List.getElem?_set_self (by simpa using h1)]
      simp [hf]
    · rw [List.getElem?_set_ne e]
  · rfl
theorem out_names (l : List Fl) : ∀ (ps : List Pt) (o : List Fl),(ps.foldl (outStep l) o).map (fun f => B f.nm) = o.map (fun f => B f.nm)
  | [],o => rfl
  | p :: ps,o => by rw [List.foldl_cons,out_names l ps,outStep_names]
theorem out_len (l : List Fl) (ps : List Pt) : (outS l ps).length = l.length := by
  have := congrArg List.length (out_names l ps l)
  simpa [outS] using this
theorem out_place (l : List Fl) (ps : List Pt) (x : ByteArray) : placeS (outS l ps) x = placeS l x := place_congr (out_names l ps l) x
theorem out_other (l : List Fl) {j : Nat} : ∀ (ps : List Pt) (o : List Fl),(∀ q ∈ ps,(placeS l q.nm).toNat ≠ j) → (ps.foldl (outStep l) o)[j]? = o[j]?
  | [],o,_ => rfl
  | p :: ps,o,h => by
    rw [List.foldl_cons,out_other l ps _ fun q hq => h q (List.mem_cons_of_mem _ hq)]
    unfold outStep
    split
    · rw [List.getElem?_set_ne (h p (List.mem_cons_self ..))]
    · rfl
theorem out_at {l : List Fl} {ps : List Pt} {k : Nat} {p : Pt} (h0 : mayN l ps k = 0) (hp : 0 ≤ placeS l p.nm) (hd : ¬ Twice ps k p.nm) : (outS l (ps.take k))[(placeS l p.nm).toNat]? = l[(placeS l p.nm).toNat]? := by
  refine out_other l _ _ fun q hq => ?_
  obtain ⟨j,hj⟩ := List.mem_iff_getElem?.1 hq
  rw [List.getElem?_take] at hj
  split at hj
  · rename_i hjk
    intro e
    have hq0 := (mayAt0 (mayN_at h0 hjk hj)).1
    obtain ⟨f,e1,e2⟩ := place_spec hq0
    obtain ⟨g,e3,e4⟩ := place_spec hp
    rw [e,e3] at e1
    cases e1
    exact hd ⟨j,q,hjk,hj,by rw [← e2,e4]⟩
  · cases hj
def indexP (ps : List Pt) (x : ByteArray) : Int := match ps.findIdx? (fun p => decide (B p.nm = B x)) with
  | some i => (i : Int)
  | none => -1
theorem indexP_at {ps : List Pt} {x : ByteArray} {i : Nat} {p : Pt} (h : NoB (fun p : Pt => B p.nm = B x) ps i) (he : ps[i]? = some p) (hp : B p.nm = B x) : indexP ps x = (i : Int) := by
  unfold indexP; rw [h.idx_at (p := fun p : Pt => B p.nm = B x) he hp]
theorem indexP_none {ps : List Pt} {x : ByteArray} {i : Nat} (h : NoB (fun p : Pt => B p.nm = B x) ps i) (hi : ps.length ≤ i) : indexP ps x = -1 := by
  unfold indexP; rw [h.idx_none (p := fun p : Pt => B p.nm = B x) hi]
theorem indexP_take {ps : List Pt} {x : ByteArray} {k : Nat} : 0 ≤ indexP (ps.take k) x ↔ Twice ps k x := by
  unfold indexP
  constructor
  · intro h
    split at h
    · rename_i i hi
      rw [List.findIdx?_eq_some_iff_getElem] at hi
      obtain ⟨h1,h2,_⟩ := hi
      have hik : i < k := by simp at h1; omega
      refine ⟨i,(ps.take k)[i],hik,?_,by simpa using h2⟩
      rw [← List.getElem?_eq_getElem h1,List.getElem?_take,if_pos hik]
    · exact absurd h (by decide)
  · intro ⟨j,q,h1,h2,h3⟩
    split
    · omega
    · rename_i hi
      rw [List.findIdx?_eq_none_iff] at hi
      have := hi q (List.mem_iff_getElem?.2 ⟨j,by rw [List.getElem?_take,if_pos h1]; exact h2⟩)
      simp [h3] at this
end Go.Ev

