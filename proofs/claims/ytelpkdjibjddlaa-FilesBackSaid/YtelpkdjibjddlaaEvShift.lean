/-
  EV: the rules of a printed walk, third part: lists that appends make, results that lie in memory.
-/
import Derived.Test.YtelpkdjibjddlaaEvWalk
namespace Go.Ev
open Go Go.RowKit
theorem flat_slice {α : Type} {c : α → List Value} {k : Nat} (hc : ∀ y,(c y).length = k) : ∀ (l : List α) (i : Nat) (y : α),l[i]? = some y → Ev.slice (l.map c).flatten (i * k) k = some (c y)
  | [],i,y,h => by simp at h
  | x :: l,0,y,h => by
    simp at h; subst h
    unfold Ev.slice
    have : ((c x).length) = k := hc x
    simp [this]
  | x :: l,i + 1,y,h => by
    have ih := flat_slice hc l i y (by simpa using h)
    unfold Ev.slice at ih ⊢
    have hd : ((x :: l).map c).flatten.drop ((i + 1) * k) = (l.map c).flatten.drop (i * k) := by
      simp only [List.map_cons,List.flatten_cons]
      rw [Nat.succ_mul,Nat.add_comm,← List.drop_drop,List.drop_left' (hc x)]
    rw [hd]; exact ih
theorem flat_len {α : Type} {c : α → List Value} {k : Nat} (hc : ∀ y,(c y).length = k) : ∀ l : List α,(l.map c).flatten.length = l.length * k
  | [] => by simp
  | x :: l => by simp only [List.map_cons,List.flatten_cons,List.length_append,flat_len hc l,hc,List.length_cons,Nat.succ_mul]; omega
def OL {α : Type} (c : α → List Value) (k : Nat) (el : TypeId) (lo : Nat) (t : Tree) (n : Nat) (v : Value) (l : List α) : Prop :=
  l.length < 4611686018427387904 ∧ ((l = [] ∧ ∃ a,v = .slice a 0 0 ∧ (a = none ∨ ∃ N,a = some ⟨N,0,none⟩)) ∨ ∃ N,v = .slice (some ⟨N,0,none⟩) l.length (END + k) ∧ Row t n N ((l.map c).flatten) el 0 ∧ lo ≤ N)
section
variable {α : Type} {c : α → List Value} {k : Nat} {el : TypeId} {lo : Nat} {v : Value} {l : List α}
theorem OL.nil {t : Tree} {n : Nat} : OL c k el lo t n (.slice none 0 0) [] := ⟨by simp,.inl ⟨rfl,none,rfl,.inl rfl⟩⟩
theorem OL.own {s s' : St} (h : OL c k el lo s.t s.next v l) (w : Own s s') : OL c k el lo s'.t s'.next v l := by
  obtain ⟨h1,h2⟩ := h
  rcases h2 with h | ⟨N,h2,h3,h4⟩
  · exact ⟨h1,.inl h⟩
  · exact ⟨h1,.inr ⟨N,h2,h3.own w,h4⟩⟩
theorem OL.le {t : Tree} {n lo' : Nat} (h : OL c k el lo t n v l) (hlo : lo' ≤ lo) : OL c k el lo' t n v l := by
  obtain ⟨h1,h2⟩ := h
  rcases h2 with h | ⟨N,h2,h3,h4⟩
  · exact ⟨h1,.inl h⟩
  · exact ⟨h1,.inr ⟨N,h2,h3,Nat.le_trans hlo h4⟩⟩
def Cp (k : Nat) (a : Option Addr) (len cap : Nat) : Prop := (cap < END ∧ len ≤ cap ∨ cap = END + k) ∧ (a = none ∨ ∃ N o,a = some ⟨N,o,none⟩)
theorem OL.sl {t : Tree} {n : Nat} (h : OL c k el lo t n v l) (hc : ∀ y,(c y).length = k) : ∃ a cap N vs e hi,v = .slice a l.length cap ∧ Sl c k t n a l N 0 vs e hi ∧ (l ≠ [] → lo ≤ N) ∧ Cp k a l.length cap := by
  obtain ⟨h1,h2⟩ := h
  rcases h2 with ⟨rfl,a,rfl,ha⟩ | ⟨N,rfl,h3,h4⟩
  · refine ⟨a,0,0,[],0,0,rfl,⟨fun h => absurd rfl h,fun h => absurd rfl h,fun i x h => by simp at h,h1⟩,fun h => absurd rfl h,.inl ⟨by decide,Nat.le_refl _⟩,?_⟩
    rcases ha with rfl | ⟨N,rfl⟩
    · exact .inl rfl
    · exact .inr ⟨N,0,rfl⟩
  · exact ⟨_,_,N,_,el,0,rfl,⟨fun _ => rfl,fun _ => h3,fun i y hy => by rw [Nat.zero_add]; exact flat_slice hc l i y hy,h1⟩,fun _ => h4,.inr rfl,.inr ⟨N,0,rfl⟩⟩
theorem OL.len {t : Tree} {n : Nat} (h : OL c k el lo t n v l) : ∃ a cap,v = .slice a l.length cap := by
  obtain ⟨h1,h2⟩ := h
  rcases h2 with ⟨rfl,a,rfl,ha⟩ | ⟨N,rfl,h3,h4⟩
  · exact ⟨a,0,rfl⟩
  · exact ⟨_,_,rfl⟩
end
theorem Sl.take {α : Type} {c : α → List Value} {k : Nat} {a : Option Addr} {l : List α} {N o e hi : Nat} {vs : List Value} {t : Tree} {n : Nat} (h : Sl c k t n a l N o vs e hi) (i : Nat) : Sl c k t n a (l.take i) N o vs e hi :=
  ⟨fun hl => h.addr fun h0 => hl (by rw [h0]; simp),fun hl => h.row fun h0 => hl (by rw [h0]; simp),fun j x hx => h.get j x (by
    rw [List.getElem?_take] at hx; split at hx
    · exact hx
    · cases hx),by have := h.small; rw [List.length_take]; omega⟩
def cat (x y : ByteArray) : ByteArray := ⟨⟨B x ++ B y⟩⟩
theorem B_cat (x y : ByteArray) : B (cat x y) = B x ++ B y := rfl
structure AppOk (T : Tab) (sT xT el : TypeId) (k b : Nat) : Prop where
  und : T.und sT = some (.slice el)
  arg : (T.und xT).map appendable = some true
  size : T.size el = some k
  bytes : T.bytes el = some b
  zero : ∃ z,T.zero el = some z ∧ (cellsOf z).length = k
  pos : 0 < k
  lt : k < END
def Struck (v : Value) (M : Nat) : Prop := ∃ len cap,v = .slice (some ⟨M,0,none⟩) len cap ∧ END ≤ cap
theorem append_run {α : Type} {c : α → List Value} {k : Nat} {el sT xT : TypeId} {b lo : Nat} {T : Tab} (A : AppOk T sT xT el k b) (hc : ∀ y,(c y).length = k) (h1 : ∀ y,∀ v ∈ c y,oneCell v = true) {v xs : Value} {l ys : List α} {s : St} (hl : OL c k el lo s.t s.next v l) (hlo : lo ≤ s.next)
    (hx1 : lenOf xs = some ys.length) (hx2 : firstCells ys.length k xs s = some ((ys.map c).flatten,s)) (hb : (l.length + ys.length) * b ≤ 140737488355328) (hb2 : l.length + ys.length < 4611686018427387904) :
    ∃ v' s1,append T [sT,xT] [v,xs] s = some (v',s1) ∧ s.next ≤ s1.next ∧ OL c k el lo s1.t s1.next v' (l ++ ys) ∧ (∃ m,s1.mods = m ++ s.mods ∧ ∀ N ∈ m,Struck v N) ∧ ∀ M,M < s.next → ¬ Struck v M → s1.t.get M = s.t.get M := by
  obtain ⟨z,hz,hzk⟩ := A.zero
  have hall : (ys.map c).flatten.all oneCell = true := List.all_eq_true.2 fun w hw => by
    obtain ⟨q,hq,hw⟩ := List.mem_flatten.1 hw
    obtain ⟨y,_,rfl⟩ := List.mem_map.1 hq
    exact h1 y w hw
  have hfl : (ys.map c).flatten.length = ys.length * k := flat_len hc ys
  have hpos := A.pos
  have hklt := A.lt
  have hE : (4611686018427387904 : Nat) = END := rfl
  have e0 : append T [sT,xT] [v,xs] s = match v with
    | .slice base sLen sCap => appendOf T el base sLen sCap xs s
    | _ => none := by
    unfold append
    simp only [A.und,A.arg]
    cases v <;> rfl
  rw [e0]
  obtain ⟨hl1,hl2⟩ := hl
  rcases hl2 with ⟨rfl,a,rfl,ha⟩ | ⟨N,rfl,hr,hN⟩
  · simp only
    unfold appendOf
    simp only [bnd,lift,A.size,A.bytes,hz,hx1,hx2]
    rw [if_neg (by decide)]
    have hst : ∀ M,¬ Struck (.slice a 0 0) M := fun M ⟨len,cap,h,hcp⟩ => by cases h; exact absurd hcp (by decide)
    by_cases hy : ys = []
    · subst hy
      rw [if_pos (by simp)]
      refine ⟨.slice a 0 0,s,?_,Nat.le_refl _,⟨by simp,.inl ⟨rfl,a,rfl,ha⟩⟩,⟨[],rfl,fun _ h => by cases h⟩,fun _ _ _ => rfl⟩
      rcases ha with rfl | ⟨N,rfl⟩
      · rfl
      · rfl
    · have hyl : 0 < ys.length := List.length_pos_iff.2 hy
      rw [if_neg (by omega)]
      have hf : firstCells 0 k (.slice a 0 0) s = some ([],s) := by
        rcases ha with rfl | ⟨N,rfl⟩ <;> rfl
      unfold appendNew
      simp only [bnd,hf]
      rw [if_pos ⟨hpos,hklt,by simpa using hb,by simpa [END] using hb2,hfl,by simp,hzk⟩]
      refine ⟨_,_,rfl,Nat.le_succ _,⟨by simpa using hb2,.inr ⟨s.next,by simp,⟨?_,Nat.lt_succ_self _⟩,hlo⟩⟩,⟨[],rfl,fun _ h => by cases h⟩,fun M hM _ => Tree.get_set_ne _ _ (by omega)⟩
      simp only [List.nil_append]
      exact Tree.get_set_same _ _ _
  · simp only
    unfold appendOf
    simp only [bnd,lift,A.size,A.bytes,hz,hx1,hx2]
    rw [if_pos (by omega)]
    simp only [if_true]
    unfold appendEnd
    have hslice : Ev.slice (l.map c).flatten 0 (l.length * k) = some ((l.map c).flatten) := by
      unfold Ev.slice
      simp only [List.drop_zero]
      rw [List.take_of_length_le (by rw [flat_len hc]; exact Nat.le_refl _),if_pos (flat_len hc l)]
    simp only [bnd,rowOf,hr.get,hslice,lift]
    rw [if_pos ⟨trivial,hpos,hklt,by decide,Nat.zero_le _,hb,by simpa [END] using hb2,hall,hfl,hzk,Nat.zero_mod _⟩]
    have hd : delB N s = some ((),{ s with t := s.t.set N none,mods := N :: s.mods }) := by unfold delB; rw [hr.get]
    simp only [bnd,hd,newB,ret]
    refine ⟨_,_,rfl,Nat.le_succ _,⟨by simpa using hb2,.inr ⟨s.next,by simp,⟨?_,Nat.lt_succ_self _⟩,hlo⟩⟩,⟨[N],rfl,fun M hM => ?_⟩,fun M hM hne => ?_⟩
    · simp only [List.map_append,List.flatten_append,Nat.sub_zero]
      exact Tree.get_set_same _ _ _
    · simp at hM; subst hM; exact ⟨_,_,rfl,by omega⟩
    · simp only
      have hMN : M ≠ N := fun h => hne ⟨_,_,by rw [h],by omega⟩
      rw [Tree.get_set_ne _ _ (Nat.ne_of_lt hM),Tree.get_set_ne _ _ hMN]
section
variable {T : Tab} {fr : Fr} {s s0 : St} {ops : Array Oper} {o : Oper} {os : List Oper} {Q : Fr → St → Prop}
theorem Own.append {z s1 : St} {α : Type} {c : α → List Value} {k lo : Nat} {el : TypeId} {v : Value} {l : List α} (hz : Own z s) (hl : OL c k el lo s.t s.next v l) (hlo : z.next ≤ lo) (h1 : s.next ≤ s1.next) (h2 : ∃ m,s1.mods = m ++ s.mods ∧ ∀ N ∈ m,Struck v N) (h3 : ∀ M,M < s.next → ¬ Struck v M → s1.t.get M = s.t.get M) : Own z s1 := by
  have key : ∀ M,Struck v M → z.next ≤ M ∧ M < s.next := fun M ⟨len,cap,e,hcap⟩ => by
    obtain ⟨_,hl2⟩ := hl
    rcases hl2 with ⟨_,a,h,_⟩ | ⟨N,h,hr,hN⟩
    · rw [e] at h; cases h; exact absurd hcap (by decide)
    · rw [e] at h; cases h; exact ⟨Nat.le_trans hlo hN,hr.lt⟩
  obtain ⟨m,h4,h5⟩ := h2
  obtain ⟨q,h6,h7⟩ := hz.mods
  refine ⟨Nat.le_trans hz.next h1,⟨m ++ q,by rw [h4,h6,List.append_assoc],fun N hN => ?_⟩,fun N hN => ?_⟩
  · rcases List.mem_append.1 hN with hN | hN
    · have := key N (h5 N hN); omega
    · have := h7 N hN; omega
  · rw [h3 N (Nat.lt_of_lt_of_le hN hz.next) fun hs => by have := key N hs; omega]
    exact hz.old N hN
theorem Own.store {z s1 : St} {N : Nat} (hz : Own z s) (hN : z.next ≤ N) (hlt : N < s.next) (hm : ∃ m,s1.mods = m ++ s.mods ∧ ∀ M ∈ m,M = N) (hn : s1.next = s.next) (hu : ∀ M,M ≠ N → s1.t.get M = s.t.get M) : Own z s1 := by
  obtain ⟨m,h1,h2⟩ := hm
  obtain ⟨q,h3,h4⟩ := hz.mods
  refine ⟨by rw [hn]; exact hz.next,⟨m ++ q,by rw [h1,h3,List.append_assoc],fun M hM => ?_⟩,fun M hM => (hu M (by omega)).trans (hz.old M hM)⟩
  rcases List.mem_append.1 hM with hM | hM
  · have := h2 M hM; omega
  · have := h4 M hM; omega
theorem W.store2 {t : TypeId} {a x : Operand} {N p e hi : Nat} {vs vs' cs : List Value} {fr1 : Fr} (hO : Own s0 s) (r : Row s.t s.next N vs e hi) (hN : s0.next ≤ N) (hw : Region.wanted o (yieldedL ops fr.tmps) = true) (ho : o.op = .store t a x) (hx : fr.eval a = .pointer (some ⟨N,p,none⟩)) (hv : cellsOf (fr.eval x) = cs)
    (hz : T.size t = some cs.length) (h0 : cs ≠ []) (hh : hi < END ∧ hi ≤ p ∧ p + cs.length ≤ vs.length ∧ cs.all oneCell = true) (hp : putAt vs p cs = vs') (hf : fr.put o.dst undef = fr1)
    (h : ∀ s1 : St,Own s0 s1 → s1.next = s.next → (∀ M,M ≠ N → s1.t.get M = s.t.get M) → Row s1.t s1.next N vs' e hi → (∀ z : St,Own z s → z.next ≤ N → Own z s1) → EndsOps T ops os fr1 s1 Q) : EndsOps T ops (o :: os) fr s Q := by
  subst hp
  have hc : noCall o.op = true := by rw [ho]; rfl
  have own : ∀ z : St,Own z s → z.next ≤ N → Own z { s with t := s.t.set N (some (.cells (putAt vs p cs) e hi)),mods := N :: s.mods } := fun z hz hzN =>
    Own.store hz hzN r.lt ⟨[N],rfl,fun M hM => by simpa using hM⟩ rfl fun M hM => Tree.get_set_ne _ _ hM
  refine EndsOps.plain1 hw (v := undef) (s1 := { s with t := s.t.set N (some (.cells (putAt vs p cs) e hi)),mods := N :: s.mods }) ?_ (noCall_ne hc) hf (h _ (own s0 hO hN) rfl (fun M hM => Tree.get_set_ne _ _ hM) ⟨Tree.get_set_same _ _ _,r.lt⟩ own)
  rw [ho]
  unfold evPlain
  cases hcs : cs with
  | nil => exact absurd hcs h0
  | cons c0 cr =>
    simp only [hx,addr,bnd,ret,storeVar,hz,hv,if_true]
    rw [← hcs]
    unfold storeCells
    rw [hcs]
    simp only [bnd,rowOf,r.get]
    rw [← hcs,if_pos hh]
    simp only [setB,r.get]
end
end Go.Ev

/-
  EV: what the functions of lists of edits compute, in plain Lean.
-/
namespace Go.Ev
open Go
abbrev Within (e : Ed) (n : Int) : Prop := 0 ≤ e.lo ∧ e.lo ≤ e.hi ∧ e.hi ≤ n
abbrev Behind (a e : Ed) : Prop := a.hi ≤ e.lo ∧ a.lo < e.lo
abbrev Nothing (e : Ed) : Prop := e.lo = e.hi ∧ B e.tx = B ByteArray.empty
def OkAt (l : List Ed) (n : Int) (i : Nat) : Prop := ∀ e,l[i]? = some e → Within e n ∧ ∀ a,0 < i → l[i - 1]? = some a → Behind a e
def Ok (l : List Ed) (n : Int) (i : Nat) : Prop := ∀ k,k < i → OkAt l n k
def Right (l : List Ed) (n : Int) : Prop := 0 ≤ n ∧ ∀ k,k < l.length → OkAt l n k
noncomputable instance (l : List Ed) (n : Int) : Decidable (Right l n) := Classical.propDecidable _
theorem Ok.step0 {l : List Ed} {n : Int} {i : Nat} {e : Ed} (h : Ok l n i) (he : l[i]? = some e) (hw : Within e n) (h0 : i = 0) : Ok l n (i + 1) := fun k hk => by
  by_cases hki : k = i
  · subst hki; intro e' he'; rw [he] at he'; cases he'; exact ⟨hw,fun _ h => by omega⟩
  · exact h k (by omega)
theorem Ok.step {l : List Ed} {n : Int} {i q : Nat} {e a : Ed} (h : Ok l n i) (he : l[i]? = some e) (hw : Within e n) (ha : l[q]? = some a) (hq : i = q + 1) (hb : Behind a e) : Ok l n (i + 1) := fun k hk => by
  by_cases hki : k = i
  · subst hki; intro e' he'; rw [he] at he'; cases he'
    refine ⟨hw,fun a' _ ha' => ?_⟩
    rw [hq,Nat.add_sub_cancel,ha] at ha'; cases ha'; exact hb
  · exact h k (by omega)
theorem Ok.at {l : List Ed} {n : Int} {i k : Nat} {e : Ed} (h : Ok l n i) (he : l[k]? = some e) (hk : k < i) : Within e n := (h k hk e he).1
theorem Right.at {l : List Ed} {n : Int} {i q : Nat} {e a : Ed} (h : Right l n) (he : l[i]? = some e) (ha : l[q]? = some a) (hq : i = q + 1) : Behind a e := by
  obtain ⟨hl,_⟩ := List.getElem?_eq_some_iff.1 he
  exact (h.2 i hl e he).2 a (by omega) (by rw [hq,Nat.add_sub_cancel]; exact ha)
structure Ed.Ok (e : Ed) : Prop where
  lo1 : -9223372036854775808 ≤ e.lo
  lo2 : e.lo < 9223372036854775808
  hi1 : -9223372036854775808 ≤ e.hi
  hi2 : e.hi < 9223372036854775808
  tx : (B e.tx).length ≤ 140737488351232
def sumT (l : List Ed) : Nat := (l.map fun e => (B e.tx).length).sum
theorem sumT_step {l : List Ed} {i : Nat} {e : Ed} (he : l[i]? = some e) : sumT (l.take (i + 1)) = sumT (l.take i) + (B e.tx).length := by
  unfold sumT
  rw [List.take_add_one,he]
  simp
theorem sumT_le (l : List Ed) (i : Nat) : sumT (l.take i) ≤ sumT l := by
  unfold sumT
  conv => rhs; rw [← List.take_append_drop i l]
  rw [List.map_append,List.sum_append]
  omega
def growS (l : List Ed) : Int := (l.map fun e => ((B e.tx).length : Int) - (e.hi - e.lo)).sum
theorem growS_step {l : List Ed} {i : Nat} {e : Ed} (he : l[i]? = some e) : growS (l.take (i + 1)) = growS (l.take i) + (((B e.tx).length : Int) - (e.hi - e.lo)) := by
  unfold growS
  rw [List.take_add_one,he]
  simp
theorem W_def (x : Int) : W x = if 9223372036854775808 ≤ x % 18446744073709551616 then x % 18446744073709551616 - 18446744073709551616 else x % 18446744073709551616 := by
  unfold W IntKind.wrap
  simp [IntKind.signed,IntKind.bits]
theorem W_grow1 {l : List Ed} {i : Nat} {e : Ed} (he : l[i]? = some e) : W (W (growS (l.take i)) + W ((((B e.tx).length : Nat) : Int) - W (e.hi - e.lo))) = W (growS (l.take (i + 1))) := by
  rw [growS_step he]
  simp only [W_def]
  omega
def firstN (l : List Ed) : Int := match l.findIdx? (fun e => decide (Nothing e)) with
  | some i => (i : Int)
  | none => -1
def NoN (l : List Ed) (i : Nat) : Prop := ∀ k,k < i → ∀ e,l[k]? = some e → ¬ Nothing e
theorem NoN.step {l : List Ed} {i : Nat} {e : Ed} (h : NoN l i) (he : l[i]? = some e) (hn : ¬ Nothing e) : NoN l (i + 1) := fun k hk e' he' => by
  by_cases hki : k = i
  · subst hki; rw [he] at he'; cases he'; exact hn
  · exact h k (by omega) e' he'
theorem firstN_none {l : List Ed} {i : Nat} (h : NoN l i) (hi : l.length ≤ i) : firstN l = -1 := by
  have : l.findIdx? (fun e => decide (Nothing e)) = none := by
    rw [List.findIdx?_eq_none_iff]
    intro e he
    obtain ⟨k,hk⟩ := List.getElem?_of_mem he
    obtain ⟨hkl,_⟩ := List.getElem?_eq_some_iff.1 hk
    exact decide_eq_false (h k (by omega) e hk)
  unfold firstN; rw [this]
theorem NoN.none {l : List Ed} {i : Nat} (h : NoN l i) (hi : l.length ≤ i) : ¬ 0 ≤ firstN l := by rw [firstN_none h hi]; decide
def Apt (l : List Ed) (i : Nat) : Prop := ∀ k,k < i → ∀ e a,l[k]? = some e → 0 < k → l[k - 1]? = some a → ¬ e.lo = a.hi
theorem Apt.one (l : List Ed) : Apt l 1 := fun k hk e a _ h => by omega
theorem Apt.step0 {l : List Ed} {i : Nat} (h : Apt l i) (h0 : i = 0) : Apt l (i + 1) := fun k hk e a _ h => by omega
theorem Apt.step {l : List Ed} {i q : Nat} {e a : Ed} (h : Apt l i) (he : l[i]? = some e) (ha : l[q]? = some a) (hq : i = q + 1) (hne : ¬ e.lo = a.hi) : Apt l (i + 1) := fun k hk e' a' he' h0 ha' => by
  by_cases hki : k = i
  · subst hki; rw [he] at he'; cases he'; rw [show k - 1 = q by omega,ha] at ha'; cases ha'; exact hne
  · exact h k (by omega) e' a' he' h0 ha'
def Plain (l : List Ed) (n : Int) : Prop := Right l n ∧ ¬ 0 ≤ firstN l ∧ ∀ k,k < l.length → ∀ e a,l[k]? = some e → 0 < k → l[k - 1]? = some a → ¬ e.lo = a.hi
noncomputable instance (l : List Ed) (n : Int) : Decidable (Plain l n) := Classical.propDecidable _
end Go.Ev

/-
  EV: what the functions of the layer shift compute, in plain Lean.
-/
namespace Go.Ev
open Go
theorem foldl_step {α β : Type} {f : β → α → β} {b : β} {l : List α} {i : Nat} {e : α} (he : l[i]? = some e) : (l.take (i + 1)).foldl f b = f ((l.take i).foldl f b) e := by
  rw [List.take_add_one,he]; simp [List.foldl_append]
def NoB {α : Type} (p : α → Prop) (l : List α) (i : Nat) : Prop := ∀ k,k < i → ∀ x,l[k]? = some x → ¬ p x
theorem NoB.zero {α : Type} {p : α → Prop} {l : List α} : NoB p l 0 := fun k hk => absurd hk (Nat.not_lt_zero k)
theorem NoB.step {α : Type} {p : α → Prop} {l : List α} {i : Nat} {e : α} (h : NoB p l i) (he : l[i]? = some e) (hn : ¬ p e) : NoB p l (i + 1) := fun k hk x hx => by
  by_cases hki : k = i
  · subst hki; rw [he] at hx; cases hx; exact hn
  · exact h k (by omega) x hx
theorem NoB.idx_at {α : Type} {p : α → Prop} [DecidablePred p] {l : List α} {i : Nat} {e : α} (h : NoB p l i) (he : l[i]? = some e) (hp : p e) : l.findIdx? (fun x => decide (p x)) = some i := by
  obtain ⟨hi,rfl⟩ := List.getElem?_eq_some_iff.1 he
  rw [List.findIdx?_eq_some_iff_getElem]
  refine ⟨hi,decide_eq_true hp,fun j hj => ?_⟩
  have := h j hj l[j] (List.getElem?_eq_getElem (by omega))
  simpa using this
theorem NoB.idx_none {α : Type} {p : α → Prop} [DecidablePred p] {l : List α} {i : Nat} (h : NoB p l i) (hi : l.length ≤ i) : l.findIdx? (fun x => decide (p x)) = none := by
  rw [List.findIdx?_eq_none_iff]
  intro x hx
  obtain ⟨k,hk⟩ := List.getElem?_of_mem hx
  obtain ⟨hl,_⟩ := List.getElem?_eq_some_iff.1 hk
  exact decide_eq_false (h k (by omega) x hk)
def errV (c : Int) : Value := if c = 0 then .nilIface else .iface 37 (.int .i64 c)
structure Run where
  fr : Int
  to : Int
  by' : Int
abbrev Run.cells (r : Run) : List Value := [.int .i64 r.fr,.int .i64 r.to,.int .i64 r.by']
theorem Run.one : ∀ y : Run,∀ v ∈ y.cells,oneCell v = true := by intro y v hv; simp at hv; rcases hv with rfl | rfl | rfl <;> rfl
structure Sp where
  a : Int
  b : Int
abbrev Sp.cells (r : Sp) : List Value := [.int .i64 r.a,.int .i64 r.b]
theorem Sp.one : ∀ y : Sp,∀ v ∈ y.cells,oneCell v = true := by intro y v hv; simp at hv; rcases hv with rfl | rfl <;> rfl
def upTo (a b : Int) : List Int := (List.range (b - a).toNat).map fun k : Nat => a + (k : Int)
def fromStep (p : List Int × Int) (e : Ed) : List Int × Int := (p.1 ++ upTo p.2 e.lo ++ List.replicate (B e.tx).length (-1),e.hi)
def fromF (l : List Ed) : List Int × Int := l.foldl fromStep ([],0)
theorem fromF_step {l : List Ed} {i : Nat} {e : Ed} (he : l[i]? = some e) : fromF (l.take (i + 1)) = fromStep (fromF (l.take i)) e := foldl_step he
end Go.Ev
