/-
  EV: the one list of two makes what both make, and is plain: in plain Lean.
-/
import Derived.Test.YtelpkdjibjddlaaEvJM
import Derived.Test.YtelpkdjibjddlaaEvMergeLaw
set_option linter.unusedSimpArgs false
set_option linter.unusedVariables false
namespace Go.Sx
open Go Go.Ev
def pc (x : ByteArray) (f : List Int) (s : List UInt8) (k : Nat) : List UInt8 := match f[k]? with
  | some z => if 0 ≤ z then ((B x).drop z.toNat).take 1 else (s.drop k).take 1
  | none => []
def mp (x : ByteArray) : List Int → List UInt8 → List UInt8
  | z :: f,c :: s => (if 0 ≤ z then ((B x).drop z.toNat).take 1 else [c]) ++ mp x f s
  | _,_ => []
theorem mp_app (x : ByteArray) : ∀ (f f' : List Int) (s s' : List UInt8),f.length = s.length → mp x (f ++ f') (s ++ s') = mp x f s ++ mp x f' s'
  | [],f',[],s',_ => rfl
  | z :: f,f',c :: s,s',h => by
    rw [List.cons_append,List.cons_append,mp,mp,mp_app x f f' s s' (by simpa using h),List.append_assoc]
  | [],_,_ :: _,_,h => by simp at h
  | _ :: _,_,[],_,h => by simp at h
theorem take_one {x : List UInt8} {a m : Nat} : (x.drop a).take (m + 1) = (x.drop a).take m ++ (x.drop (a + m)).take 1 := by
  rw [List.take_add,List.drop_drop]
theorem mp_range (x : ByteArray) (a : Int) (h0 : 0 ≤ a) : ∀ m : Nat,mp x ((List.range m).map fun k : Nat => a + (k : Int)) (List.replicate m 46) = ((B x).drop a.toNat).take m
  | 0 => rfl
  | m + 1 => by
    rw [List.range_succ,List.map_append,List.replicate_succ',mp_app _ _ _ _ _ (by simp),mp_range x a h0 m,take_one]
    congr 1
    simp only [List.map_cons,List.map_nil,mp,List.append_nil]
    rw [if_pos (by omega),show (a + (m : Int)).toNat = a.toNat + m by omega]
theorem mp_neg (x : ByteArray) : ∀ s : List UInt8,mp x (List.replicate s.length (-1)) s = s
  | [] => rfl
  | c :: s => by
    rw [List.length_cons,List.replicate_succ,mp,mp_neg x s,if_neg (by decide)]; rfl
theorem mp_upTo (x : ByteArray) {a c : Int} (h0 : 0 ≤ a) : mp x (upTo a c) (List.replicate (c - a).toNat 46) = ((B x).drop a.toNat).take (c - a).toNat := mp_range x a h0 _
theorem app_mp (x : ByteArray) : ∀ (l : List Ed) (a : Int),Chain l a (((B x).length : Nat) : Int) → 0 ≤ a → appR x l a = mp x (fromR l a (((B x).length : Nat) : Int)) (fromTR l a (((B x).length : Nat) : Int))
  | [],a,h,h0 => by
    have h : a ≤ (((B x).length : Nat) : Int) := h
    rw [appR,fromR,fromTR,mp_upTo x h0,List.take_of_length_le (by rw [List.length_drop]; omega)]
  | e :: r,a,h,h0 => by
    obtain ⟨h1,h2,h3,h4⟩ := h
    rw [appR,fromR,fromTR,mp_app _ _ _ _ _ (by rw [List.length_append,List.length_append,upTo_len,List.length_replicate,List.length_replicate]),mp_app _ _ _ _ _ (by rw [upTo_len,List.length_replicate]),mp_upTo x h0,mp_neg,app_mp x r e.hi h4 (by omega)]
    rw [show e.lo.toNat - a.toNat = (e.lo - a).toNat by omega]
theorem ap_mp {x : ByteArray} {l : List Ed} {n : Int} (hn : n = (((B x).length : Nat) : Int)) (hR : Right l n) : B (apS x l) = mp x (fromS l n) (fromT l n) := by
  subst hn
  have := ap_R x l [] 0
  rw [List.nil_append] at this
  rw [fromS_R,fromT_R,← app_mp x l 0 hR.chain (Int.le_refl _),← this]
  rfl
theorem pc_len {x : ByteArray} {f : List Int} {s : List UInt8} (hs : f.length = s.length) (hf : ∀ (k : Nat) (z : Int),f[k]? = some z → z < (((B x).length : Nat) : Int)) {k : Nat} (hk : k < f.length) : (pc x f s k).length = 1 := by
  obtain ⟨z,hz⟩ := ex_at (l := f) (i := k) hk
  have := hf k z hz
  unfold pc
  rw [hz]; simp only
  split
  · rw [List.length_take,List.length_drop]; omega
  · rw [List.length_take,List.length_drop]; omega
theorem pc_succ {x : ByteArray} {z : Int} {f : List Int} {c : UInt8} {s : List UInt8} {k : Nat} : pc x (z :: f) (c :: s) (k + 1) = pc x f s k := by
  unfold pc; rw [List.getElem?_cons_succ,List.drop_succ_cons]
theorem mp_flat {x : ByteArray} : ∀ (f : List Int) (s : List UInt8),f.length = s.length → mp x f s = ((List.range f.length).map (pc x f s)).flatten
  | [],[],_ => rfl
  | z :: f,c :: s,h => by
    rw [mp,mp_flat f s (by simpa using h),List.length_cons,List.range_succ_eq_map,List.map_cons,List.flatten_cons,List.map_map]
    congr 1
  | [],_ :: _,h => by simp at h
  | _ :: _,[],h => by simp at h
theorem mp_get {x : ByteArray} : ∀ (f : List Int) (s : List UInt8),f.length = s.length → (∀ (k : Nat) (z : Int),f[k]? = some z → z < (((B x).length : Nat) : Int)) → ∀ k,k < f.length → ((mp x f s).drop k).take 1 = pc x f s k
  | [],_,_,_,k,hk => absurd hk (Nat.not_lt_zero _)
  | _ :: _,[],h,_,_,_ => by simp at h
  | z :: f,c :: s,h,hf,0,_ => by
    have h1 := pc_len (x := x) (f := z :: f) (s := c :: s) h hf (k := 0) (by simp)
    have e : pc x (z :: f) (c :: s) 0 = (if 0 ≤ z then ((B x).drop z.toNat).take 1 else [c]) := rfl
    rw [e] at h1 ⊢
    rw [mp,List.drop_zero,List.take_append_of_le_length (by omega),List.take_of_length_le (by omega)]
  | z :: f,c :: s,h,hf,k + 1,hk => by
    have h1 := pc_len (x := x) (f := z :: f) (s := c :: s) h hf (k := 0) (by simp)
    have e : pc x (z :: f) (c :: s) 0 = (if 0 ≤ z then ((B x).drop z.toNat).take 1 else [c]) := rfl
    rw [e] at h1
    rw [mp,drop_past (m := k) (by omega),pc_succ]
    exact mp_get f s (by simpa using h) (fun j w hj => hf (j + 1) w (by rw [List.getElem?_cons_succ]; exact hj)) k (by simpa using hk)
theorem from_lt {l : List Ed} {n : Int} (hR : Right l n) : ∀ (k : Nat) (z : Int),(fromS l n)[k]? = some z → z < n := fun k z h => by
  have := from_at hR h
  have := hR.1
  omega
section
variable {a b : List Ed} {x : ByteArray} (hj : JOk a b (((B x).length : Nat) : Int)) (hR : Right a (((B x).length : Nat) : Int)) (hRb : Right b ((((B x).length : Nat) : Int) + growS a))
include hj hR hRb
def bothB (a b : List Ed) (x : ByteArray) (k : Nat) : List UInt8 := if 0 ≤ rOld (fromS a (((B x).length : Nat) : Int)) (fromS b ((((B x).length : Nat) : Int) + growS a)) (((B x).length : Nat) : Int) k then ((B x).drop (rOld (fromS a (((B x).length : Nat) : Int)) (fromS b ((((B x).length : Nat) : Int) + growS a)) (((B x).length : Nat) : Int) k).toNat).take 1 else rByte (fromT a (((B x).length : Nat) : Int)) (fromT b ((((B x).length : Nat) : Int) + growS a)) (fromS b ((((B x).length : Nat) : Int) + growS a)) k
omit hj in
theorem both_bytes : B (apS (apS x a) b) = ((List.range (fromS b ((((B x).length : Nat) : Int) + growS a)).length).map (bothB a b x)).flatten := by
  have hl := ap_len hR
  rw [ap_mp hl.symm hRb,mp_flat _ _ (fromT_len hRb).symm]
  congr 1
  refine List.map_congr_left fun k hk => ?_
  rw [List.mem_range] at hk
  obtain ⟨z,hz⟩ := ex_at (l := fromS b ((((B x).length : Nat) : Int) + growS a)) (i := k) hk
  have hzr := from_at hRb hz
  unfold pc bothB
  rw [hz]
  simp only
  by_cases h0 : 0 ≤ z
  · have hfl := from_len hR
    obtain ⟨w,hw⟩ := ex_at (l := fromS a (((B x).length : Nat) : Int)) (i := z.toNat) (by omega)
    rw [if_pos h0,ap_mp rfl hR,mp_get _ _ (fromT_len hR).symm (from_lt hR) _ (by omega),rOld_of hz h0 hw]
    unfold pc rByte
    rw [hw,hz]
    simp only
    split
    · rfl
    · first | rfl | rw [if_pos h0]
  · have ho : ¬ 0 ≤ rOld (fromS a (((B x).length : Nat) : Int)) (fromS b ((((B x).length : Nat) : Int) + growS a)) (((B x).length : Nat) : Int) k := fun h => by
      obtain ⟨y,y1,y2,_⟩ := rOld_at hk h
      rw [hz] at y1; cases y1; exact h0 y2
    rw [if_neg h0,if_neg ho]
    unfold rByte
    rw [hz]
    exact (if_neg h0).symm
end
structure Mk (a b : List Ed) (x : ByteArray) (k : Nat) (out : List Ed) (q : Int) (tx : List UInt8) : Prop where
  p0 : 0 ≤ (apF x out).2
  p1 : (apF x out).2 ≤ q
  p2 : q ≤ (((B x).length : Nat) : Int)
  bytes : (apF x out).1 ++ ((B x).drop (apF x out).2.toNat).take (q - (apF x out).2).toNat ++ tx = ((List.range k).map (bothB a b x)).flatten
  next : ∀ j,k ≤ j → j < (fromS b ((((B x).length : Nat) : Int) + growS a)).length → 0 ≤ rOld (fromS a (((B x).length : Nat) : Int)) (fromS b ((((B x).length : Nat) : Int) + growS a)) (((B x).length : Nat) : Int) j → q ≤ rOld (fromS a (((B x).length : Nat) : Int)) (fromS b ((((B x).length : Nat) : Int) + growS a)) (((B x).length : Nat) : Int) j
  each : ∀ (i : Nat) (e : Ed),out[i]? = some e → 0 ≤ e.lo ∧ e.lo ≤ e.hi ∧ e.hi < q ∧ ¬ Nothing e
  sep : ∀ (i : Nat) (e d : Ed),out[i + 1]? = some e → out[i]? = some d → d.hi < e.lo
theorem apF_put (x : ByteArray) (out : List Ed) (e : Ed) : apF x (out ++ [e]) = apStep x (apF x out) e := by unfold apF; rw [List.foldl_append]; rfl
theorem put_at {out : List Ed} {e d : Ed} {i : Nat} (h : (out ++ [e])[i]? = some d) : out[i]? = some d ∨ (i = out.length ∧ d = e) := by
  by_cases hi : i < out.length
  · rw [List.getElem?_append_left hi] at h; exact .inl h
  · have hl := (List.getElem?_eq_some_iff.1 h).1
    rw [List.length_append] at hl
    have : i = out.length := by simp at hl; omega
    subst this
    rw [List.getElem?_append_right (Nat.le_refl _),Nat.sub_self] at h
    simp at h
    exact .inr ⟨rfl,h.symm⟩
theorem put_sep {out : List Ed} {q : Int} {e : Ed} (he : ∀ (i : Nat) (d : Ed),out[i]? = some d → d.hi < q) (hs : ∀ (i : Nat) (e d : Ed),out[i + 1]? = some e → out[i]? = some d → d.hi < e.lo) (hq : e.lo = q) : ∀ (i : Nat) (f d : Ed),(out ++ [e])[i + 1]? = some f → (out ++ [e])[i]? = some d → d.hi < f.lo := fun i f d hf hd => by
  rcases put_at hf with h1 | ⟨h1,h2⟩
  · have hl := (List.getElem?_eq_some_iff.1 h1).1
    rw [List.getElem?_append_left (by omega)] at hd
    exact hs i f d h1 hd
  · subst h2
    rcases put_at hd with h3 | ⟨h3,_⟩
    · rw [hq]; exact he i d h3
    · omega
section
variable {a b : List Ed} {x : ByteArray} (hj : JOk a b (((B x).length : Nat) : Int)) (hR : Right a (((B x).length : Nat) : Int)) (hRb : Right b ((((B x).length : Nat) : Int) + growS a))
include hj hR hRb
omit hj in
theorem stop_lt {i j : Nat} (hij : i < j) (hjl : j < (fromS b ((((B x).length : Nat) : Int) + growS a)).length) (h1 : 0 ≤ rOld (fromS a (((B x).length : Nat) : Int)) (fromS b ((((B x).length : Nat) : Int) + growS a)) (((B x).length : Nat) : Int) i) (h2 : 0 ≤ rOld (fromS a (((B x).length : Nat) : Int)) (fromS b ((((B x).length : Nat) : Int) + growS a)) (((B x).length : Nat) : Int) j) :
    rOld (fromS a (((B x).length : Nat) : Int)) (fromS b ((((B x).length : Nat) : Int) + growS a)) (((B x).length : Nat) : Int) i < rOld (fromS a (((B x).length : Nat) : Int)) (fromS b ((((B x).length : Nat) : Int) + growS a)) (((B x).length : Nat) : Int) j := by
  have hu : Upw (fromS a (((B x).length : Nat) : Int)) 0 := by rw [fromS_R]; exact from_up a 0 hR.chain (Int.le_refl _)
  have hv : Upw (fromS b ((((B x).length : Nat) : Int) + growS a)) 0 := by rw [fromS_R]; exact from_up b 0 hRb.chain (Int.le_refl _)
  obtain ⟨z,z1,z2,z3⟩ := rOld_at (by omega) h1
  obtain ⟨y,y1,y2,y3⟩ := rOld_at hjl h2
  have hzy := up_lt hv hij z1 y1 z2 y2
  exact up_lt hu (by omega : z.toNat < y.toNat) z3 y3 h1 h2
omit hj in
theorem make_inv : ∀ k,k ≤ (fromS b ((((B x).length : Nat) : Int) + growS a)).length → ∃ out q tx,rF (fromS a (((B x).length : Nat) : Int)) (fromS b ((((B x).length : Nat) : Int) + growS a)) (fromT a (((B x).length : Nat) : Int)) (fromT b ((((B x).length : Nat) : Int) + growS a)) (((B x).length : Nat) : Int) k = (out,q,tx) ∧ Mk a b x k out q tx
  | 0,_ => ⟨[],0,[],rfl,Int.le_refl _,Int.le_refl _,by omega,rfl,fun _ _ _ h => h,fun i e h => by simp at h,fun i e d h => by simp at h⟩
  | k + 1,hk => by
    obtain ⟨out,q,tx,h1,hm⟩ := make_inv k (by omega)
    rw [rF_step,h1]
    have hfl : ((List.range (k + 1)).map (bothB a b x)).flatten = ((List.range k).map (bothB a b x)).flatten ++ bothB a b x k := by
      rw [List.range_succ,List.map_append,List.flatten_append]; simp
    unfold rStep
    by_cases h0 : 0 ≤ rOld (fromS a (((B x).length : Nat) : Int)) (fromS b ((((B x).length : Nat) : Int) + growS a)) (((B x).length : Nat) : Int) k
    · rw [if_neg (by omega)]
      have hq := hm.next k (Nat.le_refl _) (by omega) h0
      have hbk : bothB a b x k = ((B x).drop (rOld (fromS a (((B x).length : Nat) : Int)) (fromS b ((((B x).length : Nat) : Int) + growS a)) (((B x).length : Nat) : Int) k).toNat).take 1 := if_pos h0
      have hlt : rOld (fromS a (((B x).length : Nat) : Int)) (fromS b ((((B x).length : Nat) : Int) + growS a)) (((B x).length : Nat) : Int) k < (((B x).length : Nat) : Int) := by
        obtain ⟨z,_,_,z3⟩ := rOld_at (by omega) h0
        exact from_lt hR _ _ z3
      have hnx : ∀ j,k + 1 ≤ j → j < (fromS b ((((B x).length : Nat) : Int) + growS a)).length → 0 ≤ rOld (fromS a (((B x).length : Nat) : Int)) (fromS b ((((B x).length : Nat) : Int) + growS a)) (((B x).length : Nat) : Int) j → rOld (fromS a (((B x).length : Nat) : Int)) (fromS b ((((B x).length : Nat) : Int) + growS a)) (((B x).length : Nat) : Int) k + 1 ≤ rOld (fromS a (((B x).length : Nat) : Int)) (fromS b ((((B x).length : Nat) : Int) + growS a)) (((B x).length : Nat) : Int) j := fun j hkj hjl hjo => by
        have := stop_lt hR hRb (show k < j by omega) hjl h0 hjo; omega
      generalize rOld (fromS a (((B x).length : Nat) : Int)) (fromS b ((((B x).length : Nat) : Int) + growS a)) (((B x).length : Nat) : Int) k = o at *
      have m0 := hm.p0
      have m1 := hm.p1
      have m2 := hm.p2
      by_cases hc : q < o ∨ 0 < tx.length
      · simp only [if_pos hc]
        have hap : apF x (out ++ [⟨q,o,⟨⟨tx⟩⟩⟩]) = ((apF x out).1 ++ ((B x).drop (apF x out).2.toNat).take (q.toNat - (apF x out).2.toNat) ++ tx,o) := by rw [apF_put]; rfl
        refine ⟨_,_,_,rfl,?_,?_,by omega,?_,hnx,fun i e he => ?_,put_sep (fun i d hd => (hm.each i d hd).2.2.1) hm.sep rfl⟩
        · rw [hap]; exact h0
        · rw [hap]; show o ≤ o + 1; omega
        · rw [hap,hfl,← hm.bytes,hbk]
          simp only
          rw [show q.toNat - (apF x out).2.toNat = (q - (apF x out).2).toNat by omega,show (o + 1 - o).toNat = 1 by omega,List.append_nil]
        · rcases put_at he with h | ⟨_,rfl⟩
          · have := hm.each i e h
            exact ⟨this.1,this.2.1,by omega,this.2.2.2⟩
          · refine ⟨by show 0 ≤ q; omega,by show q ≤ o; omega,by show o < o + 1; omega,fun hn => ?_⟩
            obtain ⟨n1,n2⟩ := hn
            have n1 : q = o := n1
            have n2 : tx = [] := n2
            rcases hc with hc | hc
            · omega
            · rw [n2] at hc; simp at hc
      · simp only [if_neg hc]
        have hqo : q = o := by omega
        have htx : tx = [] := List.length_eq_zero_iff.1 (by omega)
        subst hqo
        subst htx
        refine ⟨out,q + 1,[],rfl,m0,by omega,by omega,?_,hnx,fun i e he => ?_,hm.sep⟩
        · have hb := hm.bytes
          rw [List.append_nil] at hb
          rw [hfl,← hb,hbk,List.append_nil,List.append_assoc,show (q + 1 - (apF x out).2).toNat = (q - (apF x out).2).toNat + 1 by omega,take_one,show (apF x out).2.toNat + (q - (apF x out).2).toNat = q.toNat by omega]
        · have := hm.each i e he
          exact ⟨this.1,this.2.1,by omega,this.2.2.2⟩
    · rw [if_pos (by omega)]
      refine ⟨out,q,_,rfl,hm.p0,hm.p1,hm.p2,?_,fun j hkj => hm.next j (by omega),hm.each,hm.sep⟩
      rw [hfl,← hm.bytes]
      simp only
      rw [List.append_assoc,show bothB a b x k = rByte (fromT a (((B x).length : Nat) : Int)) (fromT b ((((B x).length : Nat) : Int) + growS a)) (fromS b ((((B x).length : Nat) : Int) + growS a)) k from if_neg h0,List.append_assoc,List.append_assoc]
structure Pl (l : List Ed) (n : Int) : Prop where
  each : ∀ (i : Nat) (e : Ed),l[i]? = some e → 0 ≤ e.lo ∧ e.lo ≤ e.hi ∧ e.hi ≤ n ∧ ¬ Nothing e
  sep : ∀ (i : Nat) (e d : Ed),l[i + 1]? = some e → l[i]? = some d → d.hi < e.lo
theorem make_all : Pl (joinS a b (((B x).length : Nat) : Int)) (((B x).length : Nat) : Int) ∧ B (apS x (joinS a b (((B x).length : Nat) : Int))) = B (apS (apS x a) b) := by
  obtain ⟨out,q,tx,h1,hm⟩ := make_inv hR hRb _ (Nat.le_refl _)
  rw [both_bytes hR hRb,← hm.bytes,join_same hj hR hRb]
  unfold rjoin
  rw [rF_step,h1]
  unfold rStep
  have ho : rOld (fromS a (((B x).length : Nat) : Int)) (fromS b ((((B x).length : Nat) : Int) + growS a)) (((B x).length : Nat) : Int) (fromS b ((((B x).length : Nat) : Int) + growS a)).length = (((B x).length : Nat) : Int) := by
    unfold rOld; rw [List.getElem?_eq_none (Nat.le_refl _)]
  rw [ho,if_neg (by omega)]
  have m0 := hm.p0
  have m1 := hm.p1
  have m2 := hm.p2
  simp only
  by_cases hc : q < (((B x).length : Nat) : Int) ∨ 0 < tx.length
  · rw [if_pos hc]
    refine ⟨⟨fun i e he => ?_,put_sep (fun i d hd => (hm.each i d hd).2.2.1) hm.sep rfl⟩,?_⟩
    · rcases put_at he with h | ⟨_,rfl⟩
      · have := hm.each i e h
        exact ⟨this.1,this.2.1,by omega,this.2.2.2⟩
      · refine ⟨by show 0 ≤ q; omega,m2,Int.le_refl _,fun hn => ?_⟩
        obtain ⟨n1,n2⟩ := hn
        have n1 : q = (((B x).length : Nat) : Int) := n1
        have n2 : tx = [] := n2
        rcases hc with hc | hc
        · omega
        · rw [n2] at hc; simp at hc
    · show (apF x _).1 ++ ((B x).drop (apF x _).2.toNat).take ((B x).length - (apF x _).2.toNat) = _
      rw [apF_put]
      show ((apF x out).1 ++ ((B x).drop (apF x out).2.toNat).take (q.toNat - (apF x out).2.toNat) ++ tx) ++ ((B x).drop ((((B x).length : Nat) : Int)).toNat).take ((B x).length - ((((B x).length : Nat) : Int)).toNat) = _
      rw [Int.toNat_natCast,Nat.sub_self,List.take_zero,List.append_nil,show q.toNat - (apF x out).2.toNat = (q - (apF x out).2).toNat by omega]
  · rw [if_neg hc]
    have hqo : q = (((B x).length : Nat) : Int) := by omega
    have htx : tx = [] := List.length_eq_zero_iff.1 (by omega)
    refine ⟨⟨fun i e he => ?_,hm.sep⟩,?_⟩
    · have := hm.each i e he
      exact ⟨this.1,this.2.1,by omega,this.2.2.2⟩
    · show (apF x _).1 ++ ((B x).drop (apF x _).2.toNat).take ((B x).length - (apF x _).2.toNat) = _
      rw [htx,List.append_nil,show (q - (apF x out).2).toNat = (B x).length - (apF x out).2.toNat by omega]
omit hj hR hRb in
theorem Pl.right {l : List Ed} {n : Int} (h : Pl l n) (h0 : 0 ≤ n) : Right l n := ⟨h0,fun k _ e he => by
  obtain ⟨h1,h2,h3,h4⟩ := h.each k e he
  refine ⟨⟨h1,h2,h3⟩,fun d hk hd => ?_⟩
  obtain ⟨j,rfl⟩ : ∃ j,k = j + 1 := ⟨k - 1,by omega⟩
  rw [Nat.add_sub_cancel] at hd
  have := h.sep j e d he hd
  have hd2 := h.each j d hd
  exact ⟨by omega,by omega⟩⟩
omit hRb in
theorem goes_byte {k : Nat} (hk : k < (B x).length) (h : (goS a (((B x).length : Nat) : Int) (k : Int)).2 = 0) : ∃ i : Nat,(goS a (((B x).length : Nat) : Int) (k : Int)).1 = (i : Int) ∧ i < (B (apS x a)).length ∧ (B (apS x a))[i]? = (B x)[k]? := by
  obtain ⟨ja,jb,jsa,jsb,jn⟩ := hj
  obtain ⟨_,i,gi,g1,g2⟩ := go_bd hR (by omega) (by omega) h
  have hl := ap_len hR
  refine ⟨i,gi,by omega,?_⟩
  have hi := (List.getElem?_eq_some_iff.1 g1).1
  have h1 := mp_get (x := x) _ _ (fromT_len hR).symm (from_lt hR) i hi
  rw [← ap_mp rfl hR] at h1
  unfold pc at h1
  rw [g1] at h1
  simp only at h1
  rw [if_pos (by omega),Int.toNat_natCast] at h1
  have h2 := congrArg (fun l : List UInt8 => l[0]?) h1
  simpa using h2
end
end Go.Sx

