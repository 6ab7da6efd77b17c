/-
  SX: the document's one list of two.
-/
import Derived.Test.YtelpkdjibjddlaaEvJ6
import Derived.Test.YtelpkdjibjddlaaEvJL
set_option linter.unusedSimpArgs false
set_option linter.unusedVariables false
namespace Go.Sx
open Go Go.Ev Go.RowKit Go.Proofs
set_option maxRecDepth 100000
set_option maxHeartbeats 4000000
theorem fromT_len {l : List Ed} {n : Int} (hR : Right l n) : (fromT l n).length = (fromS l n).length := by
  obtain ⟨h1,h2,h3⟩ := tf_len hR (Nat.le_refl l.length)
  have h4 := tf_two (Nat.le_refl l.length)
  have h5 := pos_all hR l.length (Nat.le_refl _)
  rw [List.take_length] at h3 h4 h5
  unfold fromT fromS
  rw [List.length_append,List.length_append,List.length_replicate,upTo_len,h3,h4]
def rOld (f g : List Int) (n : Int) (i : Nat) : Int := match g[i]? with
  | some x => if 0 ≤ x then (f[x.toNat]?).getD (-1) else -1
  | none => n
def rByte (s t : List UInt8) (g : List Int) (i : Nat) : List UInt8 := match g[i]? with
  | some x => if 0 ≤ x then (s.drop x.toNat).take 1 else (t.drop i).take 1
  | none => []
def rStep (f g : List Int) (s t : List UInt8) (n : Int) (st : List Ed × Int × List UInt8) (i : Nat) : List Ed × Int × List UInt8 := if rOld f g n i < 0 then (st.1,st.2.1,st.2.2 ++ rByte s t g i) else (if st.2.1 < rOld f g n i ∨ 0 < st.2.2.length then st.1 ++ [⟨st.2.1,rOld f g n i,⟨⟨st.2.2⟩⟩⟩] else st.1,rOld f g n i + 1,[])
def rF (f g : List Int) (s t : List UInt8) (n : Int) (k : Nat) : List Ed × Int × List UInt8 := (List.range k).foldl (rStep f g s t n) ([],0,[])
theorem rF_step {f g : List Int} {s t : List UInt8} {n : Int} {k : Nat} : rF f g s t n (k + 1) = rStep f g s t n (rF f g s t n k) k := by unfold rF; rw [List.range_succ,List.foldl_append]; rfl
def rjoin (a b : List Ed) (n : Int) : List Ed := (rF (fromS a n) (fromS b (n + growS a)) (fromT a n) (fromT b (n + growS a)) n ((fromS b (n + growS a)).length + 1)).1
end Go.Sx

/-
  EV: the one list of two, by the program and by the document: the same, in plain Lean.
-/
namespace Go.Sx
open Go Go.Ev
def fromTR : List Ed → Int → Int → List UInt8
  | [],a,n => List.replicate (n - a).toNat 46
  | e :: r,a,n => List.replicate (e.lo - a).toNat 46 ++ B e.tx ++ fromTR r e.hi n
theorem fromT_R0 (n : Int) : ∀ (l : List Ed) (p : List UInt8) (a : Int),(l.foldl tfStep (p,a)).1 ++ List.replicate (n - (l.foldl tfStep (p,a)).2).toNat 46 = p ++ fromTR l a n
  | [],p,a => rfl
  | e :: r,p,a => by
    have := fromT_R0 n r (p ++ List.replicate (e.lo - a).toNat 46 ++ B e.tx) e.hi
    simp only [List.foldl_cons,tfStep] at this ⊢
    rw [this,fromTR]; simp only [List.append_assoc]
theorem fromT_R (l : List Ed) (n : Int) : fromT l n = fromTR l 0 n := by
  have := fromT_R0 n l [] 0; rw [List.nil_append] at this; exact this
theorem textF_cons (q : Int) (e : Ed) (l : List Ed) (p : Sp) (sp : List Sp) : textF q (q + 1) (e :: l) (p :: sp) = piece q (q + 1) e p ++ textF q (q + 1) l sp := by simp [textF]
theorem text_no {n q : Int} : ∀ (l : List Ed) (a b : Int),Chain l a n → q < a + b → textF q (q + 1) l (spansR l b) = []
  | [],a,b,_,_ => rfl
  | e :: r,a,b,h,hq => by
    obtain ⟨h1,h2,h3,h4⟩ := h
    rw [spansR,textF_cons,text_no r e.hi _ h4 (by omega),List.append_nil]
    unfold piece
    rw [if_neg (by simp only; omega)]
theorem drop_past {u v : List UInt8} {k m : Nat} (h : u.length + m = k) : (u ++ v).drop k = v.drop m := by rw [← h,List.drop_append,List.drop_eq_nil_of_le (by omega),List.nil_append,Nat.add_sub_cancel_left]
theorem text_R {n q : Int} : ∀ (l : List Ed) (a b : Int),Chain l a n → 0 ≤ a → a + b ≤ q → (fromR l a n)[(q - (a + b)).toNat]? = some (-1) → textF q (q + 1) l (spansR l b) = ((fromTR l a n).drop (q - (a + b)).toNat).take 1
  | [],a,b,h,h0,hq,hx => by
    rw [fromR,upTo_get] at hx
    split at hx
    · simp only [Option.some.injEq] at hx; omega
    · cases hx
  | e :: r,a,b,h,h0,hq,hx => by
    obtain ⟨h1,h2,h3,h4⟩ := h
    rw [spansR,textF_cons,fromTR]
    rw [fromR] at hx
    by_cases hA : q - (a + b) < e.lo - a
    · rw [List.append_assoc,List.getElem?_append_left (by rw [upTo_len]; omega),upTo_get,if_pos (by omega)] at hx
      simp only [Option.some.injEq] at hx; omega
    · by_cases hB : q - (a + b) < e.lo - a + ((B e.tx).length : Nat)
      · rw [text_no r e.hi _ h4 (by omega),List.append_nil]
        unfold piece
        rw [if_pos (by simp only; omega)]
        simp only
        rw [List.append_assoc,drop_past (m := (q - (a + b)).toNat - (e.lo - a).toNat) (by rw [List.length_replicate]; omega),List.drop_append_of_le_length (by omega),List.take_append_of_le_length (by rw [List.length_drop]; omega)]
        rw [show (max q (e.lo + b) - (e.lo + b)).toNat = (q - (a + b)).toNat - (e.lo - a).toNat by omega,show (min (q + 1) (e.lo + b + ((B e.tx).length : Nat)) - (e.lo + b)).toNat - ((q - (a + b)).toNat - (e.lo - a).toNat) = 1 by omega]
      · have e1 : (q - (a + b)).toNat - ((e.lo - a).toNat + (B e.tx).length) = (q - (e.hi + (b + (((B e.tx).length : Nat) - (e.hi - e.lo))))).toNat := by omega
        rw [List.getElem?_append_right (by rw [List.length_append,upTo_len,List.length_replicate]; omega),List.length_append,upTo_len,List.length_replicate,e1] at hx
        rw [text_R r e.hi _ h4 (by omega) (by omega) hx]
        have : piece q (q + 1) e ⟨e.lo + b,e.lo + b + ((B e.tx).length : Nat)⟩ = [] := by
          unfold piece; rw [if_neg (by simp only; omega)]
        rw [this,List.nil_append,drop_past (m := (q - (e.hi + (b + (((B e.tx).length : Nat) - (e.hi - e.lo))))).toNat) (by rw [List.length_append,List.length_replicate]; omega)]
theorem text_at {l : List Ed} {n q : Int} (hR : Right l n) (hn : n ≤ 1000) (hT : sumT l ≤ 1000) (h0 : 0 ≤ q) (hx : (fromS l n)[q.toNat]? = some (-1)) : textF q (q + 1) l (spansS l) = ((fromT l n).drop q.toNat).take 1 := by
  rw [spansS_R hR hn hT,fromT_R]
  rw [fromS_R] at hx
  have := text_R (q := q) l 0 0 hR.chain (by omega) (by omega)
  rw [show q - (0 + 0) = q by omega] at this
  exact this hx
def kp : Int → List Int → List (Int × Int)
  | _,[] => []
  | o,x :: l => if 0 ≤ x then (x,o) :: kp (o + 1) l else kp (o + 1) l
theorem kp_app : ∀ (o : Int) (u v : List Int),kp o (u ++ v) = kp o u ++ kp (o + (u.length : Nat)) v
  | o,[],v => by simp [kp]
  | o,x :: u,v => by
    have := kp_app (o + 1) u v
    rw [show o + 1 + ((u.length : Nat) : Int) = o + ((x :: u).length : Nat) by rw [List.length_cons]; omega] at this
    rw [List.cons_append,kp,kp]
    split
    · rw [this,List.cons_append]
    · exact this
theorem kp_neg : ∀ (o : Int) (m : Nat),kp o (List.replicate m (-1)) = []
  | o,0 => rfl
  | o,m + 1 => by rw [List.replicate_succ,kp,if_neg (by decide),kp_neg]
theorem kp_pos : ∀ (l : List Int) (o : Int),(∀ x ∈ l,0 ≤ x) → kp o l = (List.range l.length).map fun k : Nat => (l.getD k 0,o + (k : Int))
  | [],o,_ => rfl
  | x :: l,o,h => by
    rw [kp,if_pos (h x (List.mem_cons_self ..)),kp_pos l (o + 1) fun y hy => h y (List.mem_cons_of_mem _ hy),List.length_cons,List.range_succ_eq_map,List.map_cons,List.map_map]
    congr 1
    · simp
    · refine List.map_congr_left fun k _ => ?_
      simp; omega
theorem kp_upTo {a c : Int} (h0 : 0 ≤ a) (o : Int) : kp o (upTo a c) = (upTo a c).map fun x => (x,x + (o - a)) := by
  rw [kp_pos]
  · rw [upTo_len]
    unfold upTo
    rw [List.map_map]
    refine List.map_congr_left fun k hk => ?_
    rw [List.mem_range] at hk
    simp [List.getD,hk]; omega
  · intro x hx
    simp only [upTo,List.mem_map,List.mem_range] at hx
    obtain ⟨k,_,rfl⟩ := hx
    omega
theorem kept_R {n : Int} (hn : n ≤ 1000) : ∀ (l : List Ed) (a b : Int) (S : Nat),Chain l a n → 0 ≤ a → 0 ≤ a + b → b ≤ S → S + sumT l ≤ 1000 → keptOf (runsR l a b n) = kp (a + b) (fromR l a n)
  | [],a,b,S,hc,h0,h1,h2,h3 => by
    have hc : a ≤ n := hc
    have : keptOf (runsR [] a b n) = runPairs ⟨a,n,b⟩ := by simp [keptOf,runsR]
    rw [this,fromR,kp_upTo h0]
    unfold runPairs
    refine List.map_congr_left fun x hx => ?_
    simp only [upTo,List.mem_map,List.mem_range] at hx
    obtain ⟨k,hk,rfl⟩ := hx
    rw [W_id (by simp only; omega) (by simp only; omega)]
    simp only [Prod.mk.injEq,true_and]; omega
  | e :: r,a,b,S,hc,h0,h1,h2,h3 => by
    obtain ⟨c1,c2,c3,c4⟩ := hc
    rw [sumT_cons] at h3
    have hl := c4.le
    have : keptOf (runsR (e :: r) a b n) = runPairs ⟨a,e.lo,b⟩ ++ keptOf (runsR r e.hi (W (b + W ((((B e.tx).length : Nat) : Int) - W (e.hi - e.lo)))) n) := by simp [keptOf,runsR]
    rw [this,W_id (x := e.hi - e.lo) (by omega) (by omega),W_id (x := (((B e.tx).length : Nat) : Int) - (e.hi - e.lo)) (by omega) (by omega),W_id (by omega) (by omega)]
    rw [kept_R hn r e.hi _ (S + (B e.tx).length) c4 (by omega) (by omega) (by omega) (by omega),fromR,kp_app,kp_app,kp_neg,List.append_nil,kp_upTo h0]
    congr 1
    · unfold runPairs
      refine List.map_congr_left fun x hx => ?_
      simp only [upTo,List.mem_map,List.mem_range] at hx
      obtain ⟨k,hk,rfl⟩ := hx
      rw [W_id (by simp only; omega) (by simp only; omega)]
      simp only [Prod.mk.injEq,true_and]; omega
    · congr 1
      rw [List.length_append,upTo_len,List.length_replicate]
      omega
theorem kept_kp {l : List Ed} {n : Int} (hR : Right l n) (hn : n ≤ 1000) (hT : sumT l ≤ 1000) : keptS l n = kp 0 (fromS l n) := by
  unfold keptS
  rw [runsS_R,fromS_R]
  exact kept_R hn l 0 0 0 hR.chain (by omega) (by omega) (by omega) (by omega)
theorem kp_mem {p : Int × Int} : ∀ {l : List Int} {o : Int},p ∈ kp o l ↔ 0 ≤ p.1 ∧ o ≤ p.2 ∧ l[(p.2 - o).toNat]? = some p.1
  | [],o => by simp [kp]
  | x :: l,o => by
    rw [kp]
    have ih := kp_mem (p := p) (l := l) (o := o + 1)
    have hs : ∀ (_ : o + 1 ≤ p.2),(x :: l)[(p.2 - o).toNat]? = l[(p.2 - (o + 1)).toNat]? := fun h => by
      rw [show (p.2 - o).toNat = (p.2 - (o + 1)).toNat + 1 by omega,List.getElem?_cons_succ]
    have h0 : p.2 = o → (x :: l)[(p.2 - o).toNat]? = some x := fun h => by rw [h,Int.sub_self]; rfl
    split
    · rename_i hx
      rw [List.mem_cons,ih]
      constructor
      · rintro (rfl | ⟨h1,h2,h3⟩)
        · exact ⟨hx,Int.le_refl _,h0 rfl⟩
        · exact ⟨h1,by omega,by rw [hs h2]; exact h3⟩
      · rintro ⟨h1,h2,h3⟩
        by_cases he : p.2 = o
        · rw [h0 he] at h3
          simp only [Option.some.injEq] at h3
          left
          exact Prod.ext h3.symm he
        · rw [hs (by omega)] at h3
          exact .inr ⟨h1,by omega,h3⟩
    · rename_i hx
      rw [ih]
      constructor
      · rintro ⟨h1,h2,h3⟩
        exact ⟨h1,by omega,by rw [hs h2]; exact h3⟩
      · rintro ⟨h1,h2,h3⟩
        by_cases he : p.2 = o
        · rw [h0 he] at h3
          simp only [Option.some.injEq] at h3
          omega
        · rw [hs (by omega)] at h3
          exact ⟨h1,by omega,h3⟩
def Upw : List Int → Int → Prop
  | [],_ => True
  | x :: l,a => (x < 0 ∧ Upw l a) ∨ (a ≤ x ∧ Upw l (x + 1))
theorem up_mono : ∀ {l : List Int} {a b : Int},b ≤ a → Upw l a → Upw l b
  | [],_,_,_,_ => trivial
  | x :: l,a,b,h,hu => by
    rcases hu with ⟨h1,h2⟩ | ⟨h1,h2⟩
    · exact .inl ⟨h1,up_mono h h2⟩
    · exact .inr ⟨by omega,h2⟩
theorem up_app : ∀ {u v : List Int} {a c : Int},Upw u a → (∀ x ∈ u,x < c) → a ≤ c → Upw v c → Upw (u ++ v) a
  | [],v,a,c,_,_,h,hv => up_mono h hv
  | x :: u,v,a,c,hu,hx,h,hv => by
    rcases hu with ⟨h1,h2⟩ | ⟨h1,h2⟩
    · exact .inl ⟨h1,up_app h2 (fun y hy => hx y (List.mem_cons_of_mem _ hy)) h hv⟩
    · have := hx x (List.mem_cons_self ..)
      exact .inr ⟨h1,up_app h2 (fun y hy => hx y (List.mem_cons_of_mem _ hy)) (by omega) hv⟩
theorem up_range (c : Int) : ∀ (m : Nat) (a : Int),Upw ((List.range m).map fun k : Nat => a + (k : Int)) a
  | 0,a => trivial
  | m + 1,a => by
    rw [List.range_succ_eq_map,List.map_cons,List.map_map]
    refine .inr ⟨by omega,?_⟩
    have := up_range c m (a + 1)
    have e : ((List.range m).map fun k : Nat => a + 1 + (k : Int)) = (List.range m).map ((fun k : Nat => a + (k : Int)) ∘ Nat.succ) := List.map_congr_left fun k _ => by simp; omega
    rw [e] at this
    simpa using this
theorem up_neg : ∀ (m : Nat) (a : Int),Upw (List.replicate m (-1)) a
  | 0,_ => trivial
  | m + 1,a => by rw [List.replicate_succ]; exact .inl ⟨by decide,up_neg m a⟩
theorem from_up {n : Int} : ∀ (l : List Ed) (a : Int),Chain l a n → 0 ≤ a → Upw (fromR l a n) a
  | [],a,_,_ => up_range 0 _ a
  | e :: r,a,h,h0 => by
    obtain ⟨h1,h2,h3,h4⟩ := h
    rw [fromR,List.append_assoc]
    refine up_app (up_range 0 _ a) (fun x hx => ?_) (by omega : a ≤ e.lo) (up_app (up_neg _ _) (fun x hx => ?_) h2 (from_up r e.hi h4 (by omega)))
    · simp only [upTo,List.mem_map,List.mem_range] at hx
      obtain ⟨k,hk,rfl⟩ := hx
      omega
    · have := List.eq_of_mem_replicate hx; omega
theorem up_ge : ∀ {l : List Int} {a : Int} (_ : Upw l a) {k : Nat} {x : Int},l[k]? = some x → 0 ≤ x → a ≤ x
  | [],_,_,k,x,h,_ => by simp at h
  | y :: l,a,hu,0,x,h,h0 => by
    simp at h; subst h
    rcases hu with ⟨h1,_⟩ | ⟨h1,_⟩
    · omega
    · exact h1
  | y :: l,a,hu,k + 1,x,h,h0 => by
    rw [List.getElem?_cons_succ] at h
    rcases hu with ⟨_,h2⟩ | ⟨h1,h2⟩
    · exact up_ge h2 h h0
    · have := up_ge h2 h h0; omega
theorem up_lt : ∀ {l : List Int} {a : Int} (_ : Upw l a) {i j : Nat} {x y : Int},i < j → l[i]? = some x → l[j]? = some y → 0 ≤ x → 0 ≤ y → x < y
  | [],_,_,i,_,x,_,_,h,_,_,_ => by simp at h
  | z :: l,a,hu,0,0,x,y,hij,_,_,_,_ => absurd hij (Nat.lt_irrefl _)
  | z :: l,a,hu,0,j + 1,x,y,hij,hx,hy,h0,h1 => by
    simp at hx; subst hx
    rw [List.getElem?_cons_succ] at hy
    rcases hu with ⟨h2,_⟩ | ⟨_,h2⟩
    · omega
    · have := up_ge h2 hy h1; omega
  | z :: l,a,hu,i + 1,0,x,y,hij,_,_,_,_ => absurd hij (Nat.not_lt_zero _)
  | z :: l,a,hu,i + 1,j + 1,x,y,hij,hx,hy,h0,h1 => by
    rw [List.getElem?_cons_succ] at hx hy
    rcases hu with ⟨_,h2⟩ | ⟨_,h2⟩
    · exact up_lt h2 (Nat.lt_of_succ_lt_succ hij) hx hy h0 h1
    · exact up_lt h2 (Nat.lt_of_succ_lt_succ hij) hx hy h0 h1
theorem kp_asc : ∀ {l : List Int} {a o : Int},Upw l a → (kp o l).Pairwise fun p q => p.1 < q.1
  | [],_,_,_ => .nil
  | x :: l,a,o,hu => by
    rw [kp]
    rcases hu with ⟨h1,h2⟩ | ⟨h1,h2⟩
    · rw [if_neg (by omega)]; exact kp_asc h2
    · split
      · refine .cons (fun q hq => ?_) (kp_asc h2)
        obtain ⟨g1,g2,g3⟩ := kp_mem.1 hq
        have := up_ge h2 g3 g1
        show x < q.1; omega
      · exact kp_asc h2
theorem eq_of_asc : ∀ {l m : List (Int × Int)},l.Pairwise (fun p q => p.1 < q.1) → m.Pairwise (fun p q => p.1 < q.1) → (∀ p,p ∈ l ↔ p ∈ m) → l = m
  | [],[],_,_,_ => rfl
  | [],b :: m,_,_,h => absurd ((h b).2 (List.mem_cons_self ..)) (by simp)
  | a :: l,[],_,_,h => absurd ((h a).1 (List.mem_cons_self ..)) (by simp)
  | a :: l,b :: m,hl,hm,h => by
    obtain ⟨l1,l2⟩ := List.pairwise_cons.1 hl
    obtain ⟨m1,m2⟩ := List.pairwise_cons.1 hm
    have hab : a = b := by
      rcases List.mem_cons.1 ((h a).1 (List.mem_cons_self ..)) with e | h1
      · exact e
      · rcases List.mem_cons.1 ((h b).2 (List.mem_cons_self ..)) with e | h2
        · exact e.symm
        · have := m1 a h1; have := l1 b h2; omega
    subst hab
    rw [eq_of_asc l2 m2 fun p => ?_]
    constructor
    · intro hp
      rcases List.mem_cons.1 ((h p).1 (List.mem_cons_of_mem _ hp)) with e | h1
      · subst e; have := l1 p hp; omega
      · exact h1
    · intro hp
      rcases List.mem_cons.1 ((h p).2 (List.mem_cons_of_mem _ hp)) with e | h1
      · subst e; have := m1 p hp; omega
      · exact h1
theorem rgo_of {l : List Ed} {n q : Int} {i : Nat} (hR : Right l n) (h0 : 0 ≤ q) (h : (fromS l n)[i]? = some q) : rgoS l n q = ((i : Int),0) := by
  have hu : Upw (fromS l n) 0 := by rw [fromS_R]; exact from_up l 0 hR.chain (Int.le_refl _)
  unfold rgoS
  have : (fromS l n).findIdx? (fun x => decide (x = q ∧ 0 ≤ q)) = some i := by
    rw [List.findIdx?_eq_some_iff_getElem]
    obtain ⟨hi,he⟩ := List.getElem?_eq_some_iff.1 h
    refine ⟨hi,by simp [he,h0],fun j hj => ?_⟩
    simp only [decide_eq_true_eq,Bool.not_eq_true,decide_eq_false_iff_not]
    rintro ⟨h2,_⟩
    have := up_lt hu hj (by rw [List.getElem?_eq_getElem (by omega),h2]) h h0 h0
    omega
  rw [this]
def goOf (b : List Ed) (n : Int) (p : Int × Int) : Option (Int × Int) := if (goS b n p.2).2 = 0 then some (p.1,(goS b n p.2).1) else none
def gStep (a b : List Ed) (n : Int) (st : List Ed × Int × Int) (p : Int × Int) : List Ed × Int × Int := (gapPut a (spansS a) b (spansS b) n st.1 st.2.1 p.1 st.2.2 p.2,p.1 + 1,p.2 + 1)
theorem join_map (a b : List Ed) (n : Int) : ∀ (ps : List (Int × Int)) (st : List Ed × Int × Int),ps.foldl (joinStep a b n) st = (ps.filterMap (goOf b n)).foldl (gStep a b n) st
  | [],st => rfl
  | p :: ps,st => by
    rw [List.foldl_cons,join_map a b n ps]
    by_cases h : (goS b n p.2).2 = 0
    · rw [List.filterMap_cons_some (show goOf b n p = some (p.1,(goS b n p.2).1) from if_pos h),List.foldl_cons,join_go h]; rfl
    · rw [List.filterMap_cons_none (show goOf b n p = none from if_neg h),join_no h]
def stopOf (f g : List Int) (n : Int) (i : Nat) : Option (Int × Int) := if 0 ≤ rOld f g n i then some (rOld f g n i,(i : Int)) else none
def stops (f g : List Int) (n : Int) (k : Nat) : List (Int × Int) := (List.range k).filterMap (stopOf f g n)
theorem stops_step {f g : List Int} {n : Int} {k : Nat} : stops f g n (k + 1) = stops f g n k ++ (stopOf f g n k).toList := by
  unfold stops
  rw [List.range_succ,List.filterMap_append]
  cases h : stopOf f g n k with
  | none => rw [List.filterMap_cons_none h]; rfl
  | some x => rw [List.filterMap_cons_some h]; rfl
theorem rOld_at {f g : List Int} {n : Int} {i : Nat} (hi : i < g.length) (h : 0 ≤ rOld f g n i) : ∃ z,g[i]? = some z ∧ 0 ≤ z ∧ f[z.toNat]? = some (rOld f g n i) := by
  obtain ⟨z,hz⟩ := ex_at (l := g) (i := i) hi
  unfold rOld at h ⊢
  rw [hz] at h ⊢
  simp only at h ⊢
  by_cases h0 : 0 ≤ z
  · rw [if_pos h0] at h ⊢
    cases hf : f[z.toNat]? with
    | none => rw [hf] at h; exact absurd h (by decide)
    | some w => exact ⟨z,rfl,h0,by rw [hf]; rfl⟩
  · rw [if_neg h0] at h; exact absurd h (by decide)
theorem rOld_of {f g : List Int} {n z w : Int} {i : Nat} (hz : g[i]? = some z) (h0 : 0 ≤ z) (hw : f[z.toNat]? = some w) : rOld f g n i = w := by
  unfold rOld
  rw [hz]; simp only; rw [if_pos h0,hw]; rfl
section
variable {a b : List Ed} {n : Int} (hj : JOk a b n) (hR : Right a n) (hRb : Right b (n + growS a))
include hj hR hRb
theorem both_same : (keptS a n).filterMap (goOf b (n + growS a)) = stops (fromS a n) (fromS b (n + growS a)) n (fromS b (n + growS a)).length := by
  obtain ⟨ja,jb,jsa,jsb,jn⟩ := hj
  obtain ⟨h1,h2,h3⟩ := grow_bd hR
  have hu : Upw (fromS a n) 0 := by rw [fromS_R]; exact from_up a 0 hR.chain (Int.le_refl _)
  have hv : Upw (fromS b (n + growS a)) 0 := by rw [fromS_R]; exact from_up b 0 hRb.chain (Int.le_refl _)
  rw [kept_kp hR (by omega) (by omega)]
  refine eq_of_asc ?_ ?_ ?_
  · rw [List.pairwise_filterMap]
    refine (kp_asc hu).imp fun {p q} hpq p' hp q' hq => ?_
    unfold goOf at hp hq
    split at hp
    · split at hq
      · cases hp; cases hq; exact hpq
      · cases hq
    · cases hp
  · unfold stops
    rw [List.pairwise_filterMap]
    refine (List.pairwise_lt_range (n := (fromS b (n + growS a)).length)).imp_of_mem fun {i j} hi hj2 hij p hp q hq => ?_
    rw [List.mem_range] at hi hj2
    unfold stopOf at hp hq
    split at hp
    · rename_i g1
      split at hq
      · rename_i g2
        cases hp; cases hq
        obtain ⟨z,z1,z2,z3⟩ := rOld_at hi g1
        obtain ⟨y,y1,y2,y3⟩ := rOld_at hj2 g2
        have hzy := up_lt hv hij z1 y1 z2 y2
        exact up_lt hu (by omega : z.toNat < y.toNat) z3 y3 g1 g2
      · cases hq
    · cases hp
  · intro p
    unfold stops
    rw [List.mem_filterMap,List.mem_filterMap]
    constructor
    · rintro ⟨q,hq,hp⟩
      obtain ⟨q1,q2,q3⟩ := kp_mem.1 hq
      rw [Int.sub_zero] at q3
      unfold goOf at hp
      split at hp
      · rename_i h0
        cases hp
        obtain ⟨g0,i,gi,g1,g2⟩ := go_bd hRb (by omega) (by omega) h0
        have hi := (List.getElem?_eq_some_iff.1 g1).1
        have ho : rOld (fromS a n) (fromS b (n + growS a)) n i = q.1 := rOld_of g1 g0 q3
        refine ⟨i,List.mem_range.2 hi,?_⟩
        unfold stopOf
        rw [ho,if_pos q1,gi]
      · cases hp
    · rintro ⟨i,hi,hp⟩
      rw [List.mem_range] at hi
      unfold stopOf at hp
      split at hp
      · rename_i h0
        cases hp
        obtain ⟨z,z1,z2,z3⟩ := rOld_at hi h0
        refine ⟨(rOld (fromS a n) (fromS b (n + growS a)) n i,z),kp_mem.2 ⟨h0,z2,by rw [Int.sub_zero]; exact z3⟩,?_⟩
        have hg : goS b (n + growS a) z = ((i : Int),0) := by rw [goS_eq hRb (by omega) (by omega),rgo_of hRb z2 z1]
        unfold goOf
        rw [if_pos (by rw [hg])]
        simp only [hg]
      · cases hp
theorem byte_same {i : Nat} (hi : i < (fromS b (n + growS a)).length) (h : ¬ 0 ≤ rOld (fromS a n) (fromS b (n + growS a)) n i) : gapB a (spansS a) b (spansS b) (n + growS a) (i : Int) = rByte (fromT a n) (fromT b (n + growS a)) (fromS b (n + growS a)) i := by
  obtain ⟨ja,jb,jsa,jsb,jn⟩ := hj
  obtain ⟨h1,h2,h3⟩ := grow_bd hR
  obtain ⟨z,hz⟩ := ex_at (l := fromS b (n + growS a)) (i := i) hi
  have hzr := from_at hRb hz
  have hca : caS b (n + growS a) (i : Int) = if z < 0 then (0,5) else (z,0) := by
    rw [caS_eq hRb (by omega) (by omega)]
    unfold rcaS
    rw [if_neg (by omega),Int.toNat_natCast,hz]
  unfold rByte
  rw [hz]
  simp only
  by_cases h0 : 0 ≤ z
  · have hl := from_len hR
    obtain ⟨w,hw⟩ := ex_at (l := fromS a n) (i := z.toNat) (by omega)
    have hwr := from_at hR hw
    rw [rOld_of hz h0 hw] at h
    rw [if_neg (by omega)] at hca
    rw [if_pos h0,gapB_pos (by rw [hca]),hca]
    simp only
    exact text_at hR (by omega) (by omega) h0 (by rw [hw]; congr 1; omega)
  · rw [if_pos (by omega)] at hca
    rw [if_neg h0,gapB_neg (by rw [hca]; decide)]
    have := text_at (q := (i : Int)) hRb (by omega) (by omega) (by omega) (by rw [Int.toNat_natCast,hz]; congr 1; omega)
    rw [Int.toNat_natCast] at this
    exact this
theorem ref_same : ∀ k,k ≤ (fromS b (n + growS a)).length → ∃ out x u,(stops (fromS a n) (fromS b (n + growS a)) n k).foldl (gStep a b (n + growS a)) ([],0,0) = (out,x,u) ∧ 0 ≤ u ∧ u ≤ (k : Int) ∧
    rF (fromS a n) (fromS b (n + growS a)) (fromT a n) (fromT b (n + growS a)) n k = (out,x,gapT a (spansS a) b (spansS b) (n + growS a) u (k : Int))
  | 0,_ => ⟨[],0,0,rfl,Int.le_refl _,Int.le_refl _,rfl⟩
  | k + 1,hk => by
    obtain ⟨out,x,u,h1,h2,h3,h4⟩ := ref_same k (by omega)
    rw [rF_step,h4,stops_step,List.foldl_append,h1]
    unfold rStep stopOf
    by_cases h0 : 0 ≤ rOld (fromS a n) (fromS b (n + growS a)) n k
    · rw [if_pos h0,if_neg (by omega)]
      refine ⟨_,_,_,rfl,by simp only; omega,by simp only; omega,?_⟩
      simp only
      have e1 : gapT a (spansS a) b (spansS b) (n + growS a) ((k : Int) + 1) ((k + 1 : Nat) : Int) = [] := by
        unfold gapT
        rw [show (((k + 1 : Nat) : Int) - ((k : Int) + 1)).toNat = 0 by omega]; rfl
      rw [e1]
      simp only [Prod.mk.injEq,and_true]
      unfold gapPut GapIs gapE
      simp only [List.length_pos_iff]
    · rw [if_neg h0,if_pos (by omega)]
      refine ⟨out,x,u,rfl,h2,by omega,?_⟩
      simp only
      rw [← byte_same hj hR hRb (by omega) h0]
      unfold gapT
      rw [show (((k + 1 : Nat) : Int) - u).toNat = ((k : Int) - u).toNat + 1 by omega,gapN_step,show u + (((k : Int) - u).toNat : Int) = (k : Int) by omega]
theorem join_same : joinS a b n = rjoin a b n := by
  obtain ⟨out,x,u,h1,h2,h3,h4⟩ := ref_same hj hR hRb _ (Nat.le_refl _)
  have hl := from_len hRb
  have hn := hR.1
  unfold rjoin
  rw [rF_step,h4]
  unfold rStep
  have ho : rOld (fromS a n) (fromS b (n + growS a)) n (fromS b (n + growS a)).length = n := by
    unfold rOld; rw [List.getElem?_eq_none (Nat.le_refl _)]
  rw [ho,if_neg (by omega)]
  unfold joinS joinF
  rw [join_map,both_same hj hR hRb,h1,hl]
  simp only
  unfold gapPut GapIs gapE
  simp only [List.length_pos_iff]
end
end Go.Sx
