/-
  EV: the layer files: the inverse leads back; the difference leads to the other text.
-/
import Derived.Test.YtelpkdjibjddlaaEvSmL
import Derived.Test.YtelpkdjibjddlaaEvDiff
namespace Go.Ev
open Go
theorem apF_len {x : ByteArray} {l : List Ed} (hR : Right l (((B x).length : Nat) : Int)) : ∀ k,k ≤ l.length → (((apF x (l.take k)).1.length : Nat) : Int) = (fromF (l.take k)).2 + growS (l.take k) ∧ (apF x (l.take k)).2 = (fromF (l.take k)).2
  | 0,_ => by simp [apF,fromF,growS]
  | k + 1,h => by
    obtain ⟨e,he⟩ := ex_at (l := l) (i := k) (by omega)
    obtain ⟨h1,h2⟩ := apF_len hR k (by omega)
    have h3 := at_le hR he
    have h4 := (hR.2 k (by omega) e he).1
    have h5 := pos_all hR k (by omega)
    rw [apF_step he,fromF_step he,growS_step he]
    refine ⟨?_,rfl⟩
    show (((((apF x (l.take k)).1 ++ B (sub x (apF x (l.take k)).2.toNat e.lo.toNat)) ++ B e.tx).length : Nat) : Int) = e.hi + _
    rw [List.length_append,List.length_append,sub_len (by omega) (by omega),h2]
    push_cast
    omega
theorem ap_split {x : ByteArray} {l : List Ed} (hR : Right l (((B x).length : Nat) : Int)) {k : Nat} (hk : k ≤ l.length) : B (apS x l) = (apF x (l.take k)).1 ++ appR x (l.drop k) (fromF (l.take k)).2 := by
  have h := ap_R x (l.drop k) (apF x (l.take k)).1 (apF x (l.take k)).2
  have e : apF x l = (l.drop k).foldl (apStep x) (apF x (l.take k)) := by
    unfold apF
    rw [← List.foldl_append,List.take_append_drop]
  rw [(apF_len hR k hk).2] at h
  have e2 : apF x (l.take k) = ((apF x (l.take k)).1,(fromF (l.take k)).2) := by rw [← (apF_len hR k hk).2]
  show (apF x l).1 ++ B (sub x (apF x l).2.toNat (B x).length) = _
  rw [e,e2]
  exact h
theorem seg {x : List UInt8} {a b c : Nat} (h1 : a ≤ b) (h2 : b ≤ c) : (x.drop a).take (b - a) ++ (x.drop b).take (c - b) = (x.drop a).take (c - a) := by
  rw [show c - a = (b - a) + (c - b) by omega,List.take_add,List.drop_drop,show a + (b - a) = b by omega]
theorem undo {x : ByteArray} {l : List Ed} (hR : Right l (((B x).length : Nat) : Int)) (hS : (B x).length + sumT l ≤ 1000000) : apS (apS x l) (invS x l) = x := by
  have hlen : (invS x l).length = l.length := by have := invF_len' (x := x) (Nat.le_refl l.length); rwa [List.take_length] at this
  have key : ∀ k,k ≤ l.length → (apF (apS x l) ((invS x l).take k)).1 = (B x).take (fromF (l.take k)).2.toNat ∧ (apF (apS x l) ((invS x l).take k)).2 = (fromF (l.take k)).2 + growS (l.take k) := by
    intro k
    induction k with
    | zero => intro _; simp [apF,fromF,growS]
    | succ k ih =>
      intro h
      obtain ⟨e,he⟩ := ex_at (l := l) (i := k) (by omega)
      obtain ⟨h1,h2⟩ := ih (by omega)
      have h3 := at_le hR he
      have h4 := (hR.2 k (by omega) e he).1
      obtain ⟨p1,p2,p3,p4⟩ := pos_all hR k (by omega)
      have hie := inv_each hR hS he
      have hsp := ap_split hR (k := k) (by omega)
      have hln := (apF_len hR k (by omega)).1
      have hdr : l.drop k = e :: l.drop (k + 1) := by
        have := (List.getElem?_eq_some_iff.1 he).2
        rw [List.drop_eq_getElem_cons (by omega),this]
      rw [apF_step hie,fromF_step he,growS_step he]
      unfold apStep
      simp only
      rw [h1,h2]
      refine ⟨?_,by have := pos_step hR he; rw [fromF_step he,growS_step he] at this; exact this⟩
      rw [B_sub,B_sub,hsp,hdr]
      have e1 : ((fromF (l.take k)).2 + growS (l.take k)).toNat = (apF x (l.take k)).1.length := by omega
      have e2 : (e.lo + growS (l.take k)).toNat - (apF x (l.take k)).1.length = e.lo.toNat - (fromF (l.take k)).2.toNat := by omega
      rw [e1,e2,List.drop_left]
      simp only [appR,List.append_assoc]
      have hsl : (((B x).drop (fromF (l.take k)).2.toNat).take (e.lo.toNat - (fromF (l.take k)).2.toNat)).length = e.lo.toNat - (fromF (l.take k)).2.toNat := by
        rw [List.length_take,List.length_drop]; omega
      rw [List.take_append_of_le_length (by rw [hsl]; exact Nat.le_refl _),List.take_take,Nat.min_self]
      have s1 := seg (x := B x) (a := (fromF (l.take k)).2.toNat) (b := e.lo.toNat) (c := e.hi.toNat) (by omega) (by omega)
      have s2 := seg (x := B x) (a := 0) (b := (fromF (l.take k)).2.toNat) (c := e.hi.toNat) (by omega) (by omega)
      simp only [List.drop_zero,Nat.sub_zero] at s2
      rw [s1,s2]
      rfl
  refine B_inj ?_
  obtain ⟨h1,h2⟩ := key l.length (Nat.le_refl _)
  rw [← hlen,List.take_length] at h1 h2
  show (apF (apS x l) (invS x l)).1 ++ B (sub (apS x l) (apF (apS x l) (invS x l)).2.toNat (B (apS x l)).length) = B x
  rw [h1,h2,B_sub,hlen,List.take_length]
  have hsp := ap_split hR (Nat.le_refl l.length)
  have hln := (apF_len hR l.length (Nat.le_refl _)).1
  have hp := pos_all hR l.length (Nat.le_refl _)
  rw [List.take_length] at hsp hln hp
  rw [List.drop_length] at hsp
  have e1 : ((fromF l).2 + growS l).toNat = (apF x l).1.length := by omega
  rw [hsp,e1,List.drop_left,List.length_append,Nat.add_sub_cancel_left]
  simp only [appR]
  rw [List.take_of_length_le (Nat.le_refl _),List.take_append_drop]
theorem back_undo {x : ByteArray} {l : List Ed} (h0 : mayC (B x).length l = 0) (hS : (B x).length + sumT l ≤ 1000000) : apS (apS x l) (backS x l) = x := by
  have hR := (may0 h0).1
  have hm := mg_small l
  have := undo (x := x) (mg_plain hR).1 (by omega)
  rw [ap_mg hR] at this
  exact this
theorem com_take : ∀ (x y : List UInt8),x.take (comL x y) = y.take (comL x y)
  | [],_ => by simp [comL]
  | _ :: _,[] => by simp [comL]
  | a :: x,b :: y => by
    unfold comL
    split
    · rename_i h; subst h; simp only [List.take_succ_cons,com_take x y]
    · rfl
theorem last_drop (x y : List UInt8) : x.drop (x.length - lastL x y) = y.drop (y.length - lastL x y) := by
  have h := com_take x.reverse y.reverse
  have h1 := congrArg List.reverse h
  rw [List.take_reverse,List.take_reverse,List.reverse_reverse,List.reverse_reverse] at h1
  exact h1
theorem diff_right (x y : ByteArray) : Right [diffE x y] (((B x).length : Nat) : Int) := by
  have h1 := com_le (B x) (B y)
  have h2 := lastL_le ((B x).drop (comL (B x) (B y))) ((B y).drop (comL (B x) (B y)))
  rw [List.length_drop,List.length_drop] at h2
  refine ⟨by omega,fun k hk e he => ?_⟩
  have hk0 : k = 0 := by simp at hk; omega
  subst hk0
  simp at he
  subst he
  exact ⟨⟨by unfold diffE; simp only; omega,by unfold diffE; simp only; omega,by unfold diffE; simp only; omega⟩,fun a h0 => absurd h0 (Nat.lt_irrefl 0)⟩
theorem diff_ap (x y : ByteArray) : apS x [diffE x y] = y := by
  refine B_inj ?_
  have h1 := com_le (B x) (B y)
  have h2 := lastL_le ((B x).drop (comL (B x) (B y))) ((B y).drop (comL (B x) (B y)))
  have h3 := com_take (B x) (B y)
  have h4 := last_drop ((B x).drop (comL (B x) (B y))) ((B y).drop (comL (B x) (B y)))
  rw [List.length_drop,List.length_drop] at h2
  rw [List.length_drop,List.length_drop,List.drop_drop,List.drop_drop] at h4
  have hap := ap_R x [diffE x y] [] 0
  rw [List.nil_append] at hap
  show (apF x [diffE x y]).1 ++ _ = _
  refine hap.trans ?_
  unfold diffE
  generalize hn : comL (B x) (B y) = n at *
  generalize hk : lastL ((B x).drop n) ((B y).drop n) = k at *
  simp only [appR,B_sub]
  have e1 : ((n : Nat) : Int).toNat = n := by omega
  have e2 : (((B x).length - k : Nat) : Int).toNat = (B x).length - k := by omega
  rw [e1,e2]
  simp only [Int.toNat_zero,List.drop_zero,Nat.sub_zero]
  rw [h3,show (B x).length - k = n + ((B x).length - n - k) by omega,h4,show n + ((B y).length - n - k) = (B y).length - k by omega]
  have s1 := seg (x := B y) (a := 0) (b := n) (c := (B y).length - k) (by omega) (by omega)
  simp only [List.drop_zero,Nat.sub_zero] at s1
  rw [s1,List.take_append_drop]
end Go.Ev

/-
  EV: the layer files: the inverse of patches leads back; the difference of workspaces leads there.
-/
namespace Go.Ev
open Go
section
variable {l : List Fl} {ps : List Pt}
theorem mayN_of (h : ∀ k p,ps[k]? = some p → mayAt l ps k p = 0) : ∀ n,n ≤ ps.length → mayN l ps n = 0
  | 0,_ => rfl
  | n + 1,hn => by
    have hp : ps[n]? = some ps[n] := List.getElem?_eq_getElem (by omega)
    rw [mayN_step (mayN_of h n (by omega)) hp]
    exact h n _ hp
theorem out_hit (hm : mayN l ps ps.length = 0) {k : Nat} {p : Pt} {f : Fl} (hp : ps[k]? = some p) (hf : l[(placeS l p.nm).toNat]? = some f) : (outS l ps)[(placeS l p.nm).toNat]? = some ⟨f.nm,apS f.tx p.es⟩ := by
  have hk := (List.getElem?_eq_some_iff.1 hp).1
  obtain ⟨h1,h2,h3⟩ := mayAt0 (mayN_at hm hk hp)
  have hlt := (List.getElem?_eq_some_iff.1 hf).1
  have ho := out_at (mayN_zero hm (Nat.le_of_lt hk)) h1 h2
  have e : ps = ps.take (k + 1) ++ ps.drop (k + 1) := (List.take_append_drop _ _).symm
  have e2 : outS l ps = (ps.drop (k + 1)).foldl (outStep l) (outS l (ps.take (k + 1))) := by
    conv => lhs; rw [e]
    unfold outS; rw [List.foldl_append]
  rw [e2,out_other l (j := (placeS l p.nm).toNat) _ _ fun q hq => ?_]
  · rw [out_step hp]
    unfold outStep
    rw [ho,hf]
    simp only
    rw [List.getElem?_set_self (by rw [out_len]; exact hlt),textOf_at hf]
  · obtain ⟨j,hj⟩ := List.mem_iff_getElem?.1 hq
    rw [List.getElem?_drop] at hj
    have hjl := (List.getElem?_eq_some_iff.1 hj).1
    obtain ⟨g1,g2,g3⟩ := mayAt0 (mayN_at hm hjl hj)
    intro he
    obtain ⟨a,a1,a2⟩ := place_spec g1
    obtain ⟨b,b1,b2⟩ := place_spec h1
    rw [he,b1] at a1
    cases a1
    exact g2 ⟨k,p,by omega,hp,by rw [← b2,a2]⟩
def Hit (l : List Fl) (ps : List Pt) (i : Nat) : Prop := ∃ (k : Nat) (p : Pt),ps[k]? = some p ∧ (placeS l p.nm).toNat = i
theorem out_miss {i : Nat} (h : ¬ Hit l ps i) : (outS l ps)[i]? = l[i]? := out_other l ps l fun q hq e => by
  obtain ⟨k,hk⟩ := List.mem_iff_getElem?.1 hq
  exact h ⟨k,q,hk,e⟩
theorem out_each (hm : mayN l ps ps.length = 0) {i : Nat} {f : Fl} (hf : l[i]? = some f) : (¬ Hit l ps i ∧ (outS l ps)[i]? = some f) ∨ ∃ (k : Nat) (p : Pt),ps[k]? = some p ∧ (placeS l p.nm).toNat = i ∧ (outS l ps)[i]? = some ⟨f.nm,apS f.tx p.es⟩ := by
  by_cases h : Hit l ps i
  · obtain ⟨k,p,hp,rfl⟩ := h
    exact .inr ⟨k,p,hp,rfl,out_hit hm hp hf⟩
  · exact .inl ⟨h,by rw [out_miss h]; exact hf⟩
theorem big_at {k : Nat} {p : Pt} {f : Fl} (hb : ¬ Big l ps ps.length) (hp : ps[k]? = some p) (hf : l[(placeS l p.nm).toNat]? = some f) : (((B f.tx).length : Nat) : Int) + growS p.es ≤ 4000 := by
  have hk := (List.getElem?_eq_some_iff.1 hp).1
  by_cases h : (((B f.tx).length : Nat) : Int) + growS p.es ≤ 4000
  · exact h
  · exact absurd ⟨k,p,hk,hp,by unfold BigAt; rw [textOf_at hf]; omega⟩ hb
theorem out_FR (hF : FR l) (hm : mayN l ps ps.length = 0) (hb : ¬ Big l ps ps.length) : FR (outS l ps) := by
  refine ⟨by rw [out_len]; exact hF.1,by rw [out_len]; exact hF.2.1,fun i g hg => ?_⟩
  have hi : i < l.length := by have := (List.getElem?_eq_some_iff.1 hg).1; rw [out_len] at this; exact this
  obtain ⟨f,hf⟩ : ∃ f : Fl,l[i]? = some f := ⟨_,List.getElem?_eq_getElem hi⟩
  obtain ⟨a1,a2,a3⟩ := hF.2.2 i f hf
  rw [out_place]
  rcases out_each hm hf with ⟨_,h2⟩ | ⟨k,p,hp,rfl,h2⟩
  · rw [hg] at h2; cases h2; exact ⟨a1,a2,a3⟩
  · rw [hg] at h2; cases h2
    have hR := (mayAt0 (mayN_at hm (List.getElem?_eq_some_iff.1 hp).1 hp)).2.2
    rw [textOf_at hf] at hR
    exact ⟨a1,by simp only; rw [ap_len hR]; exact big_at hb hp hf,a3⟩
theorem sumT_inv {x : ByteArray} {m : List Ed} (hR : Right m (((B x).length : Nat) : Int)) (hS : (B x).length + sumT m ≤ 1000000) : sumT (invS x m) ≤ (B x).length ∧ (invS x m).length = m.length := by
  have hlen : (invS x m).length = m.length := by have := invF_len' (x := x) (Nat.le_refl m.length); rwa [List.take_length] at this
  refine ⟨?_,hlen⟩
  have key : ∀ k,k ≤ m.length → ((sumT ((invS x m).take k) : Nat) : Int) ≤ (fromF (m.take k)).2 := by
    intro k
    induction k with
    | zero => intro _; simp [sumT,fromF]
    | succ k ih =>
      intro h
      obtain ⟨e,he⟩ := ex_at (l := m) (i := k) (by omega)
      have h1 := ih (by omega)
      have h3 := at_le hR he
      have h4 := (hR.2 k (by omega) e he).1
      rw [sumT_step (inv_each hR hS he),fromF_step he]
      show _ ≤ e.hi
      have : (B (sub x e.lo.toNat e.hi.toNat)).length = e.hi.toNat - e.lo.toNat := sub_len (by omega) (by omega)
      simp only [this]
      push_cast
      omega
  have h := key m.length (Nat.le_refl _)
  have hp := pos_all hR m.length (Nat.le_refl _)
  rw [List.take_of_length_le (by omega)] at h
  omega
noncomputable def backP (l : List Fl) (p : Pt) : Pt := ⟨p.nm,backS (textOf l p.nm) p.es⟩
structure FewP (ps : List Pt) : Prop where
  t : ∀ p ∈ ps,sumT p.es ≤ 40000
  e : ∀ p ∈ ps,p.es.length ≤ 41
theorem back_one (hF : FR l) (hm : mayN l ps ps.length = 0) (hW : FewP ps) {k : Nat} {p : Pt} {f : Fl} (hp : ps[k]? = some p) (hf : l[(placeS l p.nm).toNat]? = some f) : mayC (B f.tx).length p.es = 0 ∧ Right (backS f.tx p.es) (((B (apS f.tx p.es)).length : Nat) : Int) ∧ apS (apS f.tx p.es) (backS f.tx p.es) = f.tx ∧ sumT (backS f.tx p.es) ≤ 4000 ∧ (backS f.tx p.es).length ≤ 41 ∧ (B f.tx).length ≤ 4000 := by
  have hR := (mayAt0 (mayN_at hm (List.getElem?_eq_some_iff.1 hp).1 hp)).2.2
  rw [textOf_at hf] at hR
  have hx : (B f.tx).length ≤ 4000 := by have := (hF.2.2 _ f hf).2.1; omega
  have ht := hW.t p (List.mem_of_getElem? hp)
  have he := hW.e p (List.mem_of_getElem? hp)
  have g1 := grow_le p.es hR.ord
  have g2 := grow_small hR (by omega) (by omega)
  have h0 : mayC (B f.tx).length p.es = 0 := mayOk hR (by rw [g2.2]; omega)
  obtain ⟨b1,b2,b3,b4,b5⟩ := back_right h0 (by omega) (by omega)
  have hm2 := mg_small p.es
  have hs := sumT_inv (x := f.tx) (mg_plain hR).1 (by omega)
  refine ⟨h0,?_,back_undo h0 (by omega),by unfold backS; omega,by unfold backS; omega,hx⟩
  rw [ap_len hR]
  rw [grow_mg hR,g2.2] at b5
  exact b5
theorem back_all (hF : FR l) (hm : mayN l ps ps.length = 0) (hb : ¬ Big l ps ps.length) (hW : FewP ps) : mayN (outS l ps) (ps.map (backP l)) (ps.map (backP l)).length = 0 ∧ ¬ Big (outS l ps) (ps.map (backP l)) (ps.map (backP l)).length ∧ outS (outS l ps) (ps.map (backP l)) = l := by
  have at_ : ∀ {k : Nat} {q : Pt},(ps.map (backP l))[k]? = some q → ∃ p f,ps[k]? = some p ∧ l[(placeS l p.nm).toNat]? = some f ∧ q = ⟨p.nm,backS f.tx p.es⟩ ∧ 0 ≤ placeS l p.nm := by
    intro k q hq
    rw [List.getElem?_map] at hq
    cases hp : ps[k]? with
    | none => rw [hp] at hq; cases hq
    | some p =>
      rw [hp] at hq
      cases hq
      have h1 := (mayAt0 (mayN_at hm (List.getElem?_eq_some_iff.1 hp).1 hp)).1
      obtain ⟨f,hf,_⟩ := place_spec h1
      exact ⟨p,f,rfl,hf,by unfold backP; rw [textOf_at hf],h1⟩
  have tx_ : ∀ {k : Nat} {p : Pt} {f : Fl},ps[k]? = some p → l[(placeS l p.nm).toNat]? = some f → textOf (outS l ps) p.nm = apS f.tx p.es := fun hp hf => textOf_at (f := ⟨_,_⟩) (by rw [out_place]; exact out_hit hm hp hf)
  have hmay : mayN (outS l ps) (ps.map (backP l)) (ps.map (backP l)).length = 0 := mayN_of (fun k q hq => by
    obtain ⟨p,f,hp,hf,rfl,h1⟩ := at_ hq
    obtain ⟨b0,b1,b2,b3,b4,b5⟩ := back_one hF hm hW hp hf
    refine mayAtOk (by simp only; rw [out_place]; omega) ?_ (by simp only; rw [tx_ hp hf]; exact b1)
    rintro ⟨j,q,h2,h3,h4⟩
    obtain ⟨p',f',hp',_,rfl,_⟩ := at_ h3
    exact (mayAt0 (mayN_at hm (List.getElem?_eq_some_iff.1 hp).1 hp)).2.1 ⟨j,p',h2,hp',h4⟩) _ (Nat.le_refl _)
  refine ⟨hmay,?_,?_⟩
  · rintro ⟨k,q,_,hq,h⟩
    obtain ⟨p,f,hp,hf,rfl,h1⟩ := at_ hq
    obtain ⟨b0,b1,b2,b3,b4,b5⟩ := back_one hF hm hW hp hf
    unfold BigAt at h
    simp only at h
    rw [tx_ hp hf,← ap_len b1,b2] at h
    omega
  · refine List.ext_getElem? fun i => ?_
    by_cases hi : i < l.length
    · obtain ⟨f,hf⟩ : ∃ f : Fl,l[i]? = some f := ⟨_,List.getElem?_eq_getElem hi⟩
      have hmiss : ¬ Hit l ps i → ¬ Hit (outS l ps) (ps.map (backP l)) i := fun h => by
        rintro ⟨k,q,hq,he⟩
        obtain ⟨p,f',hp,hf',rfl,h1⟩ := at_ hq
        simp only at he
        rw [out_place] at he
        exact h ⟨k,p,hp,he⟩
      by_cases h : Hit l ps i
      · obtain ⟨k,p,hp,rfl⟩ := h
        obtain ⟨b0,b1,b2,b3,b4,b5⟩ := back_one hF hm hW hp hf
        have hq : (ps.map (backP l))[k]? = some ⟨p.nm,backS f.tx p.es⟩ := by rw [List.getElem?_map,hp]; unfold backP; rw [Option.map_some,textOf_at hf]
        have := out_hit (l := outS l ps) hmay hq (f := ⟨f.nm,apS f.tx p.es⟩) (by simp only; rw [out_place]; exact out_hit hm hp hf)
        simp only at this
        rw [out_place,b2] at this
        rw [this,hf]
      · rw [out_miss (hmiss h),out_miss h]
    · rw [List.getElem?_eq_none (by rw [out_len,out_len]; omega),List.getElem?_eq_none (by omega)]
end
end Go.Ev

/-
  EV: the layer files: the difference of workspaces leads there.
-/
namespace Go.Ev
open Go
def Unlike (p : Fl × Fl) : Prop := ¬ (B p.1.nm = B p.2.nm ∧ B p.1.tx = B p.2.tx)
def diffQ (p : Fl × Fl) : Pt := ⟨p.1.nm,[diffE p.1.tx p.2.tx]⟩
open Classical in
noncomputable def diffL (z : List (Fl × Fl)) : List Pt := (z.filter fun p => decide (Unlike p)).map diffQ
noncomputable def diffP (a b : List Fl) : List Pt := diffL (a.zip b)
theorem diffL_T {z : List (Fl × Fl)} {i : Nat} {p : Fl × Fl} (h : z[i]? = some p) (hu : Unlike p) : diffL (z.take (i + 1)) = diffL (z.take i) ++ [diffQ p] := by
  unfold diffL
  rw [List.take_add_one,h]
  simp [List.filter_append,hu]
theorem diffL_F {z : List (Fl × Fl)} {i : Nat} {p : Fl × Fl} (h : z[i]? = some p) (hu : ¬ Unlike p) : diffL (z.take (i + 1)) = diffL (z.take i) := by
  unfold diffL
  rw [List.take_add_one,h]
  simp [List.filter_append,hu]
theorem diffL_len (z : List (Fl × Fl)) : (diffL z).length ≤ z.length := by unfold diffL; rw [List.length_map]; exact List.length_filter_le _ _
section
variable {a b : List Fl} (hA : FR a) (hB : FR b) (hN : Named a b)
include hA hB hN
theorem zip_at {i : Nat} {f : Fl} (hf : a[i]? = some f) : ∃ g,b[i]? = some g ∧ (a.zip b)[i]? = some (f,g) ∧ B f.nm = B g.nm := by
  have _ := hA
  have _ := hB
  have hi := (List.getElem?_eq_some_iff.1 hf).1
  obtain ⟨g,hg⟩ : ∃ g : Fl,b[i]? = some g := ⟨_,List.getElem?_eq_getElem (by have := hN.1; omega)⟩
  refine ⟨g,hg,?_,hN.2 i f g hf hg⟩
  rw [List.getElem?_zip_eq_some]; exact ⟨hf,hg⟩
theorem diff_at {k : Nat} {q : Pt} (hq : (diffP a b)[k]? = some q) : ∃ (i : Nat) (f g : Fl),a[i]? = some f ∧ b[i]? = some g ∧ q = ⟨f.nm,[diffE f.tx g.tx]⟩ ∧ placeS a f.nm = i ∧ B f.nm = B g.nm := by
  have _ := hB
  obtain ⟨p,hp,rfl⟩ := List.mem_map.1 (List.mem_of_getElem? hq)
  have hp := (List.mem_filter.1 hp).1
  obtain ⟨i,hi⟩ := List.mem_iff_getElem?.1 hp
  obtain ⟨f,g⟩ := p
  rw [List.getElem?_zip_eq_some] at hi
  exact ⟨i,f,g,hi.1,hi.2,rfl,(hA.2.2 i f hi.1).2.2,hN.2 i f g hi.1 hi.2⟩
theorem diff_once {j k : Nat} {p q : Pt} (hjk : j < k) (hp : (diffP a b)[j]? = some p) (hq : (diffP a b)[k]? = some q) : ¬ B p.nm = B q.nm := by
  have _ := hB
  have _ := hN
  have hz : (a.zip b).Pairwise fun x y => ¬ B x.1.nm = B y.1.nm := by
    rw [List.pairwise_iff_getElem]
    intro i m hi hm him he
    have h1 : (a.zip b)[i]? = some (a.zip b)[i] := List.getElem?_eq_getElem hi
    have h2 : (a.zip b)[m]? = some (a.zip b)[m] := List.getElem?_eq_getElem hm
    generalize (a.zip b)[i] = x at h1 he
    generalize (a.zip b)[m] = y at h2 he
    obtain ⟨x1,x2⟩ := x
    obtain ⟨y1,y2⟩ := y
    rw [List.getElem?_zip_eq_some] at h1 h2
    have g1 := (hA.2.2 i x1 h1.1).2.2
    have g2 := (hA.2.2 m y1 h2.1).2.2
    rw [place_name (y := y1.nm) he] at g1
    omega
  have hd : (diffP a b).Pairwise fun x y => ¬ B x.nm = B y.nm := by
    unfold diffP diffL
    rw [List.pairwise_map]
    exact hz.filter _
  obtain ⟨h1,rfl⟩ := List.getElem?_eq_some_iff.1 hp
  obtain ⟨h2,rfl⟩ := List.getElem?_eq_some_iff.1 hq
  exact (List.pairwise_iff_getElem.1 hd) j k h1 h2 hjk
theorem diff_all : mayN a (diffP a b) (diffP a b).length = 0 ∧ ¬ Big a (diffP a b) (diffP a b).length ∧ outS a (diffP a b) = b := by
  have hmay : mayN a (diffP a b) (diffP a b).length = 0 := mayN_of (fun k q hq => by
    obtain ⟨i,f,g,h1,h2,rfl,h3,h4⟩ := diff_at hA hB hN hq
    have ht : textOf a f.nm = f.tx := textOf_at (by rw [h3,Int.toNat_natCast]; exact h1)
    refine mayAtOk (by simp only; omega) ?_ (by simp only; rw [ht]; exact diff_right f.tx g.tx)
    rintro ⟨j,p,g1,g2,g3⟩
    exact diff_once hA hB hN g1 g2 hq g3) _ (Nat.le_refl _)
  refine ⟨hmay,?_,?_⟩
  · rintro ⟨k,q,_,hq,h⟩
    obtain ⟨i,f,g,h1,h2,rfl,h3,h4⟩ := diff_at hA hB hN hq
    have ht : textOf a f.nm = f.tx := textOf_at (by rw [h3,Int.toNat_natCast]; exact h1)
    unfold BigAt at h
    simp only at h
    rw [ht,← ap_len (diff_right f.tx g.tx),diff_ap] at h
    have := (hB.2.2 i g h2).2.1
    omega
  · refine List.ext_getElem? fun i => ?_
    by_cases hi : i < a.length
    · obtain ⟨f,hf⟩ : ∃ f : Fl,a[i]? = some f := ⟨_,List.getElem?_eq_getElem hi⟩
      obtain ⟨g,hg,hz,hnm⟩ := zip_at hA hB hN hf
      have hpl := (hA.2.2 i f hf).2.2
      by_cases hu : Unlike (f,g)
      · have hmem : diffQ (f,g) ∈ diffP a b := List.mem_map.2 ⟨(f,g),List.mem_filter.2 ⟨List.mem_of_getElem? hz,by simpa using hu⟩,rfl⟩
        obtain ⟨k,hk⟩ := List.mem_iff_getElem?.1 hmem
        have hp : (placeS a (diffQ (f,g)).nm).toNat = i := by show (placeS a f.nm).toNat = i; rw [hpl]; exact Int.toNat_natCast i
        have := out_hit hmay hk (f := f) (by rw [hp]; exact hf)
        rw [hp] at this
        rw [this,hg]
        have e1 : apS f.tx (diffQ (f,g)).es = g.tx := diff_ap f.tx g.tx
        rw [e1]
        obtain ⟨gn,gt⟩ := g
        have : f.nm = gn := B_inj hnm
        rw [this]
      · have hmiss : ¬ Hit a (diffP a b) i := by
          rintro ⟨k,q,hq,he⟩
          have hq2 := hq
          obtain ⟨p,hp,rfl⟩ := List.mem_map.1 (List.mem_of_getElem? hq)
          obtain ⟨hp,hpu⟩ := List.mem_filter.1 hp
          obtain ⟨m,hm⟩ := List.mem_iff_getElem?.1 hp
          obtain ⟨f',g'⟩ := p
          rw [List.getElem?_zip_eq_some] at hm
          have e1 := (hA.2.2 m f' hm.1).2.2
          have e2 : (placeS a f'.nm).toNat = i := he
          have : m = i := by omega
          subst this
          rw [hf,hg] at hm
          obtain ⟨h1,h2⟩ := hm
          cases h1; cases h2
          exact hu (by simpa using hpu)
        rw [out_miss hmiss,hf,hg]
        have hu' : B f.nm = B g.nm ∧ B f.tx = B g.tx := by
          false_or_by_contra
          exact hu (by assumption)
        obtain ⟨fn,ft⟩ := f
        obtain ⟨gn,gt⟩ := g
        have e1 : fn = gn := B_inj hu'.1
        have e2 : ft = gt := B_inj hu'.2
        rw [e1,e2]
    · rw [List.getElem?_eq_none (by rw [out_len]; omega),List.getElem?_eq_none (by have := hN.1; omega)]
theorem diff_few : (diffP a b).length ≤ 8 ∧ ∀ q ∈ diffP a b,q.es.length ≤ 41 ∧ sumT q.es ≤ 4000 ∧ ∃ f ∈ a,q.nm = f.nm := by
  refine ⟨?_,fun q hq => ?_⟩
  · have h1 := diffL_len (a.zip b)
    have h2 := hA.2.1
    have h3 : (a.zip b).length ≤ a.length := by rw [List.length_zip]; omega
    unfold diffP; omega
  · obtain ⟨k,hk⟩ := List.mem_iff_getElem?.1 hq
    obtain ⟨i,f,g,h1,h2,rfl,h3,h4⟩ := diff_at hA hB hN hk
    refine ⟨by simp,?_,f,List.mem_of_getElem? h1,rfl⟩
    have hg := (hB.2.2 i g h2).2.1
    have hc := com_le (B f.tx) (B g.tx)
    have : (B (diffE f.tx g.tx).tx).length ≤ (B g.tx).length := by
      unfold diffE
      simp only
      rw [B_sub,List.length_take,List.length_drop]; omega
    simp [sumT]
    omega
end
end Go.Ev
