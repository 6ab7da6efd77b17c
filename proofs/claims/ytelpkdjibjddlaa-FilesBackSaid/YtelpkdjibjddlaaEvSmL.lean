/-
  EV: the layer edit: edits put together make the same text, and what leads back from them is right.
-/
import Derived.Test.YtelpkdjibjddlaaEvMergeLaw
import Derived.Test.YtelpkdjibjddlaaEvPf
namespace Go.Ev
open Go
theorem mg_apF (x : ByteArray) : ∀ (l : List Ed) (i : Nat),i ≤ l.length → apF x (mgF (l.take i)) = apF x (l.take i)
  | l,0,_ => by simp [mgF,apF]
  | l,i + 1,h => by
    obtain ⟨e,he⟩ := ex_at (l := l) (i := i) (by omega)
    have ih := mg_apF x l i (by omega)
    rw [mgF_step he,apF_step he,← ih]
    generalize mgF (l.take i) = M
    unfold mgStep
    split
    · rename_i a ha
      have hM : M = M.dropLast ++ [a] := by
        have hne : M ≠ [] := by intro h0; subst h0; simp at ha
        have h1 := List.dropLast_concat_getLast hne
        rw [List.getLast?_eq_some_getLast hne] at ha
        cases ha; exact h1.symm
      split
      · rename_i hj
        conv => rhs; rw [hM]
        unfold apF
        simp only [List.foldl_append,List.foldl_cons,List.foldl_nil,apStep,hj,B_cat,B_sub,Nat.sub_self,List.take_zero,List.append_nil,List.append_assoc]
      · unfold apF; simp only [List.foldl_append,List.foldl_cons,List.foldl_nil]
    · rename_i ha
      have : M = [] := List.getLast?_eq_none_iff.1 ha
      subst this
      rfl
theorem appR_shift (x : ByteArray) {a b : Int} (h0 : 0 ≤ a) (hab : a ≤ b) : ∀ {r : List Ed},Chain r b (((B x).length : Nat) : Int) → ((B x).drop a.toNat).take (b.toNat - a.toNat) ++ appR x r b = appR x r a
  | [],hc => by
    simp only [appR]
    have hb : b ≤ (((B x).length : Nat) : Int) := hc
    have e : (B x).drop b.toNat = ((B x).drop a.toNat).drop (b.toNat - a.toNat) := by rw [List.drop_drop]; congr 1; omega
    rw [e,List.take_append_drop]
  | e :: r,hc => by
    obtain ⟨c1,c2,c3,c4⟩ := hc
    simp only [appR,← List.append_assoc]
    congr 2
    have e1 : (B x).drop b.toNat = ((B x).drop a.toNat).drop (b.toNat - a.toNat) := by rw [List.drop_drop]; congr 1; omega
    have e2 : e.lo.toNat - a.toNat = (b.toNat - a.toNat) + (e.lo.toNat - b.toNat) := by omega
    rw [e1,e2,List.take_add]
theorem Chain.mono {a b n : Int} (hab : a ≤ b) : ∀ {r : List Ed},Chain r b n → Chain r a n
  | [],hc => Int.le_trans hab hc
  | e :: r,⟨c1,c2,c3,c4⟩ => ⟨Int.le_trans hab c1,c2,c3,c4⟩
theorem appR_rm (x : ByteArray) (P : Ed → Prop) (hP : ∀ e,P e → Nothing e) : ∀ (l : List Ed) (a : Int),0 ≤ a → Chain l a (((B x).length : Nat) : Int) → appR x (rmP P l) a = appR x l a ∧ Chain (rmP P l) a (((B x).length : Nat) : Int)
  | [],a,_,hc => ⟨rfl,hc⟩
  | e :: r,a,h0,hc => by
    obtain ⟨c1,c2,c3,c4⟩ := hc
    obtain ⟨ih1,ih2⟩ := appR_rm x P hP r e.hi (by omega) c4
    by_cases hp : P e
    · have hn := hP e hp
      have e1 : rmP P (e :: r) = rmP P r := by unfold rmP; simp [hp]
      rw [e1]
      have hlo := hn.1
      have htx : B e.tx = [] := hn.2
      refine ⟨?_,Chain.mono (by omega) ih2⟩
      show _ = _ ++ B e.tx ++ appR x r e.hi
      rw [htx,List.append_nil,← ih1,← hlo]
      rw [← hlo] at ih2
      exact (appR_shift x h0 c1 ih2).symm
    · have e1 : rmP P (e :: r) = e :: rmP P r := by unfold rmP; simp [hp]
      rw [e1]
      exact ⟨by simp only [appR,ih1],c1,c2,c3,ih2⟩
theorem ap_mg {x : ByteArray} {l : List Ed} (hR : Right l (((B x).length : Nat) : Int)) : apS x (mgS l) = apS x l := by
  have hm := (mg_plain hR).1
  have hM : MgOk (((B x).length : Nat) : Int) (mgF l) := mg_ok' hR
  have hRM : Right (mgF l) (((B x).length : Nat) : Int) := by
    refine ⟨hR.1,fun k hk e he => ⟨hM.w e (List.mem_of_getElem? he),fun a h0 ha => ?_⟩⟩
    obtain ⟨h1,rfl⟩ := List.getElem?_eq_some_iff.1 he
    obtain ⟨h2,rfl⟩ := List.getElem?_eq_some_iff.1 ha
    have := (List.pairwise_iff_getElem.1 hM.p) _ _ h2 h1 (by omega)
    have hw := hM.w _ (List.getElem_mem h2)
    simp only [Within,Behind] at *
    omega
  refine B_inj ?_
  have e1 := ap_R x (mgS l) [] 0
  have e2 := ap_R x (mgF l) [] 0
  have e3 := (appR_rm x Nothing (fun _ h => h) (mgF l) 0 (Int.le_refl 0) hRM.chain).1
  have e4 := mg_apF x l l.length (Nat.le_refl _)
  rw [List.take_length] at e4
  rw [List.nil_append] at e1 e2
  have f1 : B (apS x (mgS l)) = appR x (mgS l) 0 := e1
  have f2 : B (apS x (mgF l)) = appR x (mgF l) 0 := e2
  have f3 : apS x (mgF l) = apS x l := by unfold apS; rw [e4]
  rw [f1,← f3,f2]
  exact e3
theorem grow_mg {n : Nat} {l : List Ed} (hR : Right l n) : growS (mgS l) = growS l := by
  let x : ByteArray := ⟨⟨List.replicate n 0⟩⟩
  have hx : (B x).length = n := by show (List.replicate n (0 : UInt8)).length = n; simp
  have hR' : Right l (((B x).length : Nat) : Int) := by rw [hx]; exact hR
  have h1 := ap_len hR'
  have h2 := ap_len (mg_plain hR').1
  rw [ap_mg hR',h1] at h2
  omega
theorem may_mg {n : Nat} {l : List Ed} (h : mayC n l = 0) : mayC n (mgS l) = 0 := by
  obtain ⟨h1,h2⟩ := may0 h
  exact mayOk (mg_plain h1).1 (by rw [grow_mg h1]; exact h2)
theorem inv_each {x : ByteArray} {l : List Ed} (hR : Right l (((B x).length : Nat) : Int)) (hS : (B x).length + sumT l ≤ 1000000) {k : Nat} {e : Ed} (he : l[k]? = some e) : (invS x l)[k]? = some ⟨e.lo + growS (l.take k),e.lo + growS (l.take k) + ((B e.tx).length : Int),sub x e.lo.toNat e.hi.toNat⟩ := by
  have hk := (List.getElem?_eq_some_iff.1 he).1
  obtain ⟨b1,b2,b3,b4⟩ := pos_all hR k (by omega)
  have hw := (hR.2 k hk e he).1
  have ha := at_le hR he
  have hT := sumT_le l k
  have hE := sumT_get he
  rw [inv_at he,invF_by (by omega),W_id (x := growS (l.take k)) (by omega) (by omega),W_id (x := e.lo + growS (l.take k)) (by omega) (by omega),W_id (x := e.lo + growS (l.take k) + ((B e.tx).length : Int)) (by omega) (by omega)]
theorem plain_notwin {x : ByteArray} {l : List Ed} (hP : Plain l (((B x).length : Nat) : Int)) (hS : (B x).length + sumT l ≤ 1000000) : NoTwin (invS x l) l.length := by
  have hR := hP.1
  intro k hk e' a' he' h0 ha'
  obtain ⟨e,he⟩ := ex_at (l := l) (i := k) hk
  obtain ⟨a,ha⟩ := ex_at (l := l) (i := k - 1) (by omega)
  rw [inv_each hR hS he] at he'
  rw [inv_each hR hS ha] at ha'
  cases he'; cases ha'
  have h1 := pos_step hR ha
  have h2 := hP.2.2 k hk e a he h0 ha
  have h3 := at_le hR he
  rw [show k - 1 + 1 = k by omega] at h1
  have h4 : (fromF (l.take k)).2 = a.hi := by rw [show k = k - 1 + 1 by omega,fromF_step ha]; rfl
  simp only
  omega
theorem sumT_app (a b : List Ed) : sumT (a ++ b) = sumT a + sumT b := by unfold sumT; simp
theorem sumT_mgF (l : List Ed) : ∀ i,i ≤ l.length → sumT (mgF (l.take i)) = sumT (l.take i)
  | 0,_ => by simp [mgF,sumT]
  | i + 1,h => by
    obtain ⟨e,he⟩ := ex_at (l := l) (i := i) (by omega)
    rw [mgF_step he,sumT_step he,← sumT_mgF l i (by omega)]
    generalize mgF (l.take i) = M
    unfold mgStep
    split
    · rename_i a ha
      have hM : M = M.dropLast ++ [a] := by
        have hne : M ≠ [] := by intro h0; subst h0; simp at ha
        have h1 := List.dropLast_concat_getLast hne
        rw [List.getLast?_eq_some_getLast hne] at ha
        cases ha; exact h1.symm
      split
      · conv => rhs; rw [hM]
        rw [sumT_app,sumT_app]
        have : (B (cat a.tx e.tx)).length = (B a.tx).length + (B e.tx).length := by rw [B_cat,List.length_append]
        simp [sumT,this]; omega
      · rw [sumT_app]; simp [sumT]
    · rename_i ha
      have : M = [] := List.getLast?_eq_none_iff.1 ha
      subst this
      simp [sumT]
theorem sumT_rm (P : Ed → Prop) : ∀ l : List Ed,sumT (rmP P l) ≤ sumT l
  | [] => Nat.le_refl _
  | e :: r => by
    have ih := sumT_rm P r
    by_cases hp : P e
    · have e1 : rmP P (e :: r) = rmP P r := by unfold rmP; simp [hp]
      rw [e1]; simp only [sumT,List.map_cons,List.sum_cons] at ih ⊢; omega
    · have e1 : rmP P (e :: r) = e :: rmP P r := by unfold rmP; simp [hp]
      rw [e1]; simp only [sumT,List.map_cons,List.sum_cons] at ih ⊢; omega
theorem mg_small (l : List Ed) : sumT (mgS l) ≤ sumT l ∧ (mgS l).length ≤ l.length := by
  have h1 := sumT_mgF l l.length (Nat.le_refl _)
  have h2 := mgF_len l l.length (Nat.le_refl _)
  rw [List.take_length] at h1 h2
  exact ⟨h1 ▸ sumT_rm Nothing (mgF l),Nat.le_trans (rm_len _ _) h2⟩
noncomputable def backS (x : ByteArray) (l : List Ed) : List Ed := invS x (mgS l)
theorem back_right {x : ByteArray} {l : List Ed} (h0 : mayC (B x).length l = 0) (hS : (B x).length + sumT l ≤ 1000000) (hB : l.length ≤ 1000) : mayC (B x).length (mgS l) = 0 ∧ (B x).length + sumT (mgS l) ≤ 1000000 ∧ (mgS l).length ≤ 1000 ∧ NoTwin (backS x l) (mgS l).length ∧ Right (backS x l) (W ((((B x).length : Nat) : Int) + W (growS (mgS l)))) := by
  have hm := mg_small l
  have h1 := may_mg h0
  have h2 := plain_notwin (x := x) (mg_plain (may0 h0).1) (by omega)
  exact ⟨h1,by omega,by omega,h2,(inv_iff (by omega) (by omega) h1).2 h2⟩
end Go.Ev

