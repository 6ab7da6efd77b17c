/-
  EV: the layer edit: lists made plain, in plain Lean.
-/
import Derived.Test.YtelpkdjibjddlaaEvApplyLaw
import Derived.Test.YtelpkdjibjddlaaEvStore
namespace Go.Ev
open Go
noncomputable def firstP {α : Type} (P : α → Prop) (l : List α) : Int := by
  classical exact if h : ∃ i : Nat,(∃ e,l[i]? = some e ∧ P e) ∧ NoB P l i then ((Classical.choose h : Nat) : Int) else -1
section
variable {α : Type} {P : α → Prop} {l : List α}
theorem firstP_at {i : Nat} {e : α} (hn : NoB P l i) (he : l[i]? = some e) (hp : P e) : firstP P l = i := by
  have h : ∃ i : Nat,(∃ e,l[i]? = some e ∧ P e) ∧ NoB P l i := ⟨i,⟨e,he,hp⟩,hn⟩
  unfold firstP
  rw [dif_pos h]
  obtain ⟨⟨e',g1,g2⟩,g3⟩ := Classical.choose_spec h
  rcases Nat.lt_trichotomy (Classical.choose h) i with hl | hl | hl
  · exact absurd g2 (hn _ hl _ g1)
  · exact congrArg Int.ofNat hl
  · exact absurd hp (g3 _ hl _ he)
theorem firstP_none {i : Nat} (hn : NoB P l i) (hi : l.length ≤ i) : firstP P l = -1 := by
  unfold firstP
  rw [dif_neg]
  rintro ⟨k,⟨e,h1,h2⟩,_⟩
  exact hn k (by have := (List.getElem?_eq_some_iff.1 h1).1; omega) e h1 h2
theorem firstP_ex (h : ¬ firstP P l = -1) : ∃ (i : Nat) (e : α),l[i]? = some e ∧ P e ∧ NoB P l i ∧ firstP P l = ((i : Nat) : Int) := by
  unfold firstP at h ⊢
  split at h
  · rename_i hx
    obtain ⟨⟨e',g1,g2⟩,g3⟩ := Classical.choose_spec hx
    refine ⟨_,e',g1,g2,g3,?_⟩
    rw [dif_pos hx]
  · exact absurd rfl h
theorem firstP_neg (h : firstP P l = -1) : ∀ i,NoB P l i
  | 0 => NoB.zero
  | i + 1 => by
    have ih := firstP_neg h i
    intro k hk x hx hp
    by_cases hki : k = i
    · subst hki
      rw [firstP_at ih hx hp] at h; omega
    · exact ih k (by omega) x hx hp
noncomputable def rmP (P : α → Prop) (l : List α) : List α := by classical exact l.filter fun e => decide (¬ P e)
theorem rm_T {i : Nat} {e : α} (he : l[i]? = some e) (h : P e) : rmP P (l.take (i + 1)) = rmP P (l.take i) := by
  unfold rmP
  rw [List.take_add_one,he]
  simp [List.filter_append,h]
theorem rm_F {i : Nat} {e : α} (he : l[i]? = some e) (h : ¬ P e) : rmP P (l.take (i + 1)) = rmP P (l.take i) ++ [e] := by
  unfold rmP
  rw [List.take_add_one,he]
  simp [List.filter_append,h]
theorem rm_no {i : Nat} (h : NoB P l i) : rmP P (l.take i) = l.take i := by
  unfold rmP
  refine List.filter_eq_self.2 fun a ha => ?_
  obtain ⟨k,hk⟩ := List.getElem?_of_mem ha
  have hlt := (List.getElem?_eq_some_iff.1 hk).1
  rw [List.length_take] at hlt
  rw [List.getElem?_take_of_lt (by omega)] at hk
  simpa using h k (by omega) a hk
theorem rm_all (h : firstP P l = -1) : rmP P l = l := by
  have := rm_no (firstP_neg h l.length)
  rwa [List.take_length] at this
theorem rm_len (P : α → Prop) (l : List α) : (rmP P l).length ≤ l.length := by unfold rmP; exact List.length_filter_le _ _
theorem rm_mem {a : α} (h : a ∈ rmP P l) : a ∈ l ∧ ¬ P a := by
  unfold rmP at h
  have := List.mem_filter.1 h
  exact ⟨this.1,by simpa using this.2⟩
theorem set_take {i : Nat} (l : List α) (e : α) (hi : i < l.length) : (l.set i e).take (i + 1) = l.take i ++ [e] := by
  refine List.ext_getElem? fun k => ?_
  by_cases hk : k < i
  · rw [List.getElem?_take_of_lt (by omega),List.getElem?_set_ne (by omega),List.getElem?_append_left (by rw [List.length_take]; omega),List.getElem?_take_of_lt hk]
  · by_cases hki : k = i
    · subst hki
      rw [List.getElem?_take_of_lt (by omega),List.getElem?_set_self hi,List.getElem?_append_right (by rw [List.length_take]; omega),List.length_take,Nat.min_eq_left (by omega),Nat.sub_self]; rfl
    · rw [List.getElem?_eq_none (by rw [List.length_take]; omega),List.getElem?_eq_none (by rw [List.length_append,List.length_take,List.length_singleton]; omega)]
end
def SameX (x : ByteArray) (e : Ed) : Prop := B (sub x e.lo.toNat e.hi.toNat) = B e.tx
noncomputable instance (x : ByteArray) (e : Ed) : Decidable (SameX x e) := Classical.propDecidable _
def mgStep (o : List Ed) (e : Ed) : List Ed := match o.getLast? with
  | some a => if a.hi = e.lo then o.dropLast ++ [⟨a.lo,e.hi,cat a.tx e.tx⟩] else o ++ [e]
  | none => [e]
def mgF (l : List Ed) : List Ed := l.foldl mgStep []
theorem mgF_step {l : List Ed} {i : Nat} {e : Ed} (he : l[i]? = some e) : mgF (l.take (i + 1)) = mgStep (mgF (l.take i)) e := foldl_step he
theorem mg_touch {o : List Ed} {q : Nat} {a e y y2 : Ed} (ha : o[q]? = some a) (hq : q + 1 = o.length) (h : a.hi = e.lo) (h2 : y2 = ⟨a.lo,e.hi,cat a.tx e.tx⟩) : (o.set q y).set q y2 = mgStep o e := by
  obtain ⟨p,rfl⟩ : ∃ p,o = p ++ [a] := by
    refine ⟨o.dropLast,?_⟩
    have hne : o ≠ [] := by intro h0; subst h0; simp at ha
    have h1 := List.dropLast_concat_getLast hne
    have h3 : o.getLast hne = a := by
      rw [List.getLast_eq_getElem]
      have := (List.getElem?_eq_some_iff.1 ha).2
      rw [← this]; congr 1; omega
    rw [h3] at h1; exact h1.symm
  have hp : q = p.length := by simp at hq; omega
  subst hp h2
  unfold mgStep
  simp [h]
theorem mg_far {o : List Ed} {q : Nat} {a e : Ed} (ha : o[q]? = some a) (hq : q + 1 = o.length) (h : ¬ a.hi = e.lo) : o ++ [e] = mgStep o e := by
  have h1 : o.getLast? = some a := by rw [List.getLast?_eq_getElem?,← ha]; congr 1; omega
  unfold mgStep
  rw [h1]; simp only; rw [if_neg h]
theorem mg_first {o : List Ed} {e : Ed} (h : o.length = 0) : o ++ [e] = mgStep o e := by
  have := List.eq_nil_of_length_eq_zero h
  subst this; rfl
theorem mgStep_len (o : List Ed) (e : Ed) : (mgStep o e).length ≤ o.length + 1 := by
  unfold mgStep
  split
  · split
    · simp
    · simp
  · simp
theorem mgF_len : ∀ (l : List Ed) (i : Nat),i ≤ l.length → (mgF (l.take i)).length ≤ i
  | l,0,_ => by simp [mgF]
  | l,i + 1,h => by
    obtain ⟨e,he⟩ := ex_at (l := l) (i := i) (by omega)
    rw [mgF_step he]
    have := mgF_len l i (by omega)
    have := mgStep_len (mgF (l.take i)) e
    omega
theorem mg_tx : ∀ (l : List Ed) (i : Nat),i ≤ l.length → ∀ y ∈ mgF (l.take i),(B y.tx).length ≤ sumT (l.take i)
  | l,0,_,y,hy => by simp [mgF] at hy
  | l,i + 1,h,y,hy => by
    obtain ⟨e,he⟩ := ex_at (l := l) (i := i) (by omega)
    have hs := sumT_step he
    have ih := mg_tx l i (by omega)
    rw [mgF_step he] at hy
    rw [hs]
    unfold mgStep at hy
    split at hy
    · rename_i a ha
      have hm : a ∈ mgF (l.take i) := List.mem_of_getLast? ha
      split at hy
      · rcases List.mem_append.1 hy with hy | hy
        · have := ih y (List.dropLast_subset _ hy); omega
        · simp at hy; subst hy
          have := ih a hm
          rw [B_cat,List.length_append]; omega
      · rcases List.mem_append.1 hy with hy | hy
        · have := ih y hy; omega
        · simp at hy; subst hy; omega
    · simp at hy; subst hy; omega
noncomputable def mgS (l : List Ed) : List Ed := rmP Nothing (mgF l)
end Go.Ev

/-
  EV: the layer edit: what the program's and the document's way to put edits together have in common; that what comes of it is plain.
-/
namespace Go.Ev
open Go
theorem mg_sep {o : List Ed} {e : Ed} (h : ∀ a,o.getLast? = some a → ¬ a.hi = e.lo) : mgStep o e = o ++ [e] := by
  unfold mgStep
  split
  · rename_i a ha; rw [if_neg (h a ha)]
  · rename_i ha
    have := List.getLast?_eq_none_iff.1 ha
    subst this; rfl
theorem mg_join {p : List Ed} {a e : Ed} (h : e.lo = a.hi) : mgStep (p ++ [a]) e = p ++ [⟨a.lo,e.hi,cat a.tx e.tx⟩] := by
  unfold mgStep
  simp [h]
structure MgOk (n : Int) (M : List Ed) : Prop where
  w : ∀ y ∈ M,Within y n
  p : M.Pairwise fun a b => a.hi < b.lo
theorem MgOk.rm {n : Int} {M : List Ed} (h : MgOk n M) (P : Ed → Prop) : MgOk n (rmP P M) := by
  refine ⟨fun y hy => h.w y (rm_mem hy).1,?_⟩
  unfold rmP
  exact h.p.filter _
theorem mg_ok {l : List Ed} {n : Int} (hR : Right l n) : ∀ i,i ≤ l.length → MgOk n (mgF (l.take i)) ∧ ∀ e,0 < i → l[i - 1]? = some e → ∃ p a,mgF (l.take i) = p ++ [a] ∧ a.hi = e.hi
  | 0,_ => ⟨⟨fun y hy => by simp [mgF] at hy,by simp [mgF]⟩,fun _ h => by omega⟩
  | i + 1,hi => by
    obtain ⟨e,he⟩ := ex_at (l := l) (i := i) (by omega)
    obtain ⟨ih,ihl⟩ := mg_ok hR i (by omega)
    have hw := (hR.2 i (by omega) e he).1
    rw [mgF_step he]
    simp only [Nat.add_sub_cancel]
    by_cases h0 : i = 0
    · subst h0
      have : mgStep (mgF (l.take 0)) e = [e] := by simp [mgF,mgStep]
      rw [this]
      exact ⟨⟨fun y hy => by simp at hy; subst hy; exact hw,by simp⟩,fun e' _ he' => ⟨[],e,rfl,by rw [he] at he'; cases he'; rfl⟩⟩
    · obtain ⟨b,hb⟩ := ex_at (l := l) (i := i - 1) (by omega)
      obtain ⟨p,a,hM,ha⟩ := ihl b (by omega) hb
      have hbe := hR.at he hb (by omega)
      rw [hM] at ih ⊢
      have hpa := ih.p
      have hwa := ih.w a (by simp)
      rw [List.pairwise_append] at hpa
      obtain ⟨hp1,_,hp3⟩ := hpa
      by_cases ht : e.lo = a.hi
      · rw [mg_join ht]
        refine ⟨⟨fun y hy => ?_,?_⟩,fun e' _ he' => ⟨p,_,rfl,by rw [he] at he'; cases he'; rfl⟩⟩
        · rcases List.mem_append.1 hy with hy | hy
          · exact ih.w y (List.mem_append_left _ hy)
          · simp at hy; subst hy
            simp only [Within] at *
            omega
        · rw [List.pairwise_append]
          refine ⟨hp1,by simp,fun x hx y hy => ?_⟩
          simp at hy; subst hy
          exact hp3 x hx a (by simp)
      · rw [mg_sep fun a' ha' => by simp at ha'; subst ha'; exact fun h => ht h.symm]
        refine ⟨⟨fun y hy => ?_,?_⟩,fun e' _ he' => ⟨p ++ [a],e,rfl,by rw [he] at he'; cases he'; rfl⟩⟩
        · rcases List.mem_append.1 hy with hy | hy
          · exact ih.w y hy
          · simp at hy; subst hy; exact hw
        · rw [List.pairwise_append]
          refine ⟨ih.p,by simp,fun x hx y hy => ?_⟩
          simp at hy; subst hy
          simp only [Within,Behind] at *
          rcases List.mem_append.1 hx with hx | hx
          · have := hp3 x hx a (by simp); omega
          · simp at hx; subst hx; omega
theorem mg_ok' {l : List Ed} {n : Int} (hR : Right l n) : MgOk n (mgF l) := by
  have := (mg_ok hR l.length (Nat.le_refl _)).1
  rwa [List.take_length] at this
theorem mg_plain {l : List Ed} {n : Int} (hR : Right l n) : Plain (mgS l) n := by
  have h := (mg_ok' hR).rm Nothing
  have hno : ∀ e ∈ mgS l,¬ Nothing e := fun e he => (rm_mem he).2
  have hlt : ∀ k e a,(mgS l)[k]? = some e → 0 < k → (mgS l)[k - 1]? = some a → a.hi < e.lo := fun k e a he h0 ha => by
    obtain ⟨h1,rfl⟩ := List.getElem?_eq_some_iff.1 he
    obtain ⟨h2,rfl⟩ := List.getElem?_eq_some_iff.1 ha
    exact (List.pairwise_iff_getElem.1 h.p) _ _ h2 h1 (by omega)
  refine ⟨⟨hR.1,fun k hk e he => ⟨h.w e (List.mem_of_getElem? he),fun a h0 ha => ?_⟩⟩,?_,fun k hk e a he h0 ha => ?_⟩
  · have h1 := hlt k e a he h0 ha
    have h2 := h.w a (List.mem_of_getElem? ha)
    simp only [Within,Behind] at *
    omega
  · rw [firstN_none (i := (mgS l).length) (fun k _ e he => hno e (List.mem_of_getElem? he)) (Nat.le_refl _)]
    decide
  · have := hlt k e a he h0 ha; omega
end Go.Ev
