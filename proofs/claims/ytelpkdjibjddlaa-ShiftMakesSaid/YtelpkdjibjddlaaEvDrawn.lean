/-
  EV: the rules of a printed walk, third part: lists that appends make, results that lie in memory.
-/
import Derived.Test.YtelpkdjibjddlaaEvWalk
set_option linter.unusedSimpArgs false
set_option linter.unusedVariables false
namespace Go.Ev
open Go Go.RowKit
theorem flat_slice {α : Type} {c : α → List Value} {k : Nat} (hc : ∀ y,(c y).length = k) : ∀ (l : List α) (i : Nat) (y : α),l[i]? = some y → Ev.slice (l.map c).flatten (i * k) k = some (c y)
  | [],i,y,h => by simp at h
  | x :: l,0,y,h => by
    simp at h; subst h
    unfold Ev.slice
    have : ((c x).length) = k := hc x
    simp [this]
  | x :: l,i + 1,y,h => by
    have ih := flat_slice hc l i y (by simpa using h)
    unfold Ev.slice at ih ⊢
    have hd : ((x :: l).map c).flatten.drop ((i + 1) * k) = (l.map c).flatten.drop (i * k) := by
      simp only [List.map_cons,List.flatten_cons]
      rw [Nat.succ_mul,Nat.add_comm,← List.drop_drop,List.drop_left' (hc x)]
    rw [hd]; exact ih
theorem flat_len {α : Type} {c : α → List Value} {k : Nat} (hc : ∀ y,(c y).length = k) : ∀ l : List α,(l.map c).flatten.length = l.length * k
  | [] => by simp
  | x :: l => by simp only [List.map_cons,List.flatten_cons,List.length_append,flat_len hc l,hc,List.length_cons,Nat.succ_mul]; omega
def OL {α : Type} (c : α → List Value) (k : Nat) (el : TypeId) (lo : Nat) (t : Tree) (n : Nat) (v : Value) (l : List α) : Prop :=
  l.length < 4611686018427387904 ∧ ((l = [] ∧ ∃ a,v = .slice a 0 0 ∧ (a = none ∨ ∃ N,a = some ⟨N,0,none⟩)) ∨ ∃ N,v = .slice (some ⟨N,0,none⟩) l.length (END + k) ∧ Row t n N ((l.map c).flatten) el 0 ∧ lo ≤ N)
section
variable {α : Type} {c : α → List Value} {k : Nat} {el : TypeId} {lo : Nat} {v : Value} {l : List α}
theorem OL.nil {t : Tree} {n : Nat} : OL c k el lo t n (.slice none 0 0) [] := ⟨by simp,.inl ⟨rfl,none,rfl,.inl rfl⟩⟩
theorem OL.own {s s' : St} (h : OL c k el lo s.t s.next v l) (w : Own s s') : OL c k el lo s'.t s'.next v l := by
  obtain ⟨h1,h2⟩ := h
  rcases h2 with h | ⟨N,h2,h3,h4⟩
  · exact ⟨h1,.inl h⟩
  · exact ⟨h1,.inr ⟨N,h2,h3.own w,h4⟩⟩
theorem OL.le {t : Tree} {n lo' : Nat} (h : OL c k el lo t n v l) (hlo : lo' ≤ lo) : OL c k el lo' t n v l := by
  obtain ⟨h1,h2⟩ := h
  rcases h2 with h | ⟨N,h2,h3,h4⟩
  · exact ⟨h1,.inl h⟩
  · exact ⟨h1,.inr ⟨N,h2,h3,Nat.le_trans hlo h4⟩⟩
def Cp (k : Nat) (a : Option Addr) (len cap : Nat) : Prop := (cap < END ∧ len ≤ cap ∨ cap = END + k) ∧ (a = none ∨ ∃ N o,a = some ⟨N,o,none⟩)
theorem OL.sl {t : Tree} {n : Nat} (h : OL c k el lo t n v l) (hc : ∀ y,(c y).length = k) : ∃ a cap N vs e hi,v = .slice a l.length cap ∧ Sl c k t n a l N 0 vs e hi ∧ (l ≠ [] → lo ≤ N) ∧ Cp k a l.length cap := by
  obtain ⟨h1,h2⟩ := h
  rcases h2 with ⟨rfl,a,rfl,ha⟩ | ⟨N,rfl,h3,h4⟩
  · refine ⟨a,0,0,[],0,0,rfl,⟨fun h => absurd rfl h,fun h => absurd rfl h,fun i x h => by simp at h,h1⟩,fun h => absurd rfl h,.inl ⟨by decide,Nat.le_refl _⟩,?_⟩
    rcases ha with rfl | ⟨N,rfl⟩
    · exact .inl rfl
    · exact .inr ⟨N,0,rfl⟩
  · exact ⟨_,_,N,_,el,0,rfl,⟨fun _ => rfl,fun _ => h3,fun i y hy => by rw [Nat.zero_add]; exact flat_slice hc l i y hy,h1⟩,fun _ => h4,.inr rfl,.inr ⟨N,0,rfl⟩⟩
theorem OL.len {t : Tree} {n : Nat} (h : OL c k el lo t n v l) : ∃ a cap,v = .slice a l.length cap := by
  obtain ⟨h1,h2⟩ := h
  rcases h2 with ⟨rfl,a,rfl,ha⟩ | ⟨N,rfl,h3,h4⟩
  · exact ⟨a,0,rfl⟩
  · exact ⟨_,_,rfl⟩
end
theorem Sl.take {α : Type} {c : α → List Value} {k : Nat} {a : Option Addr} {l : List α} {N o e hi : Nat} {vs : List Value} {t : Tree} {n : Nat} (h : Sl c k t n a l N o vs e hi) (i : Nat) : Sl c k t n a (l.take i) N o vs e hi :=
  ⟨fun hl => h.addr fun h0 => hl (by rw [h0]; simp),fun hl => h.row fun h0 => hl (by rw [h0]; simp),fun j x hx => h.get j x (by
    rw [List.getElem?_take] at hx; split at hx
    · exact hx
    · cases hx),by have := h.small; rw [List.length_take]; omega⟩
structure AppOk (T : Tab) (sT xT el : TypeId) (k b : Nat) : Prop where
  und : T.und sT = some (.slice el)
  arg : (T.und xT).map appendable = some true
  size : T.size el = some k
  bytes : T.bytes el = some b
  zero : ∃ z,T.zero el = some z ∧ (cellsOf z).length = k
  pos : 0 < k
  lt : k < END
def Struck (v : Value) (M : Nat) : Prop := ∃ len cap,v = .slice (some ⟨M,0,none⟩) len cap ∧ END ≤ cap
theorem append_run {α : Type} {c : α → List Value} {k : Nat} {el sT xT : TypeId} {b lo : Nat} {T : Tab} (A : AppOk T sT xT el k b) (hc : ∀ y,(c y).length = k) (h1 : ∀ y,∀ v ∈ c y,oneCell v = true) {v xs : Value} {l ys : List α} {s : St} (hl : OL c k el lo s.t s.next v l) (hlo : lo ≤ s.next)
    (hx1 : lenOf xs = some ys.length) (hx2 : firstCells ys.length k xs s = some ((ys.map c).flatten,s)) (hb : (l.length + ys.length) * b ≤ 140737488355328) (hb2 : l.length + ys.length < 4611686018427387904) :
    ∃ v' s1,append T [sT,xT] [v,xs] s = some (v',s1) ∧ s.next ≤ s1.next ∧ OL c k el lo s1.t s1.next v' (l ++ ys) ∧ (∃ m,s1.mods = m ++ s.mods ∧ ∀ N ∈ m,Struck v N) ∧ ∀ M,M < s.next → ¬ Struck v M → s1.t.get M = s.t.get M := by
  obtain ⟨z,hz,hzk⟩ := A.zero
  have hall : (ys.map c).flatten.all oneCell = true := List.all_eq_true.2 fun w hw => by
    obtain ⟨q,hq,hw⟩ := List.mem_flatten.1 hw
    obtain ⟨y,_,rfl⟩ := List.mem_map.1 hq
    exact h1 y w hw
  have hfl : (ys.map c).flatten.length = ys.length * k := flat_len hc ys
  have hpos := A.pos
  have hklt := A.lt
  have hE : (4611686018427387904 : Nat) = END := rfl
  have e0 : append T [sT,xT] [v,xs] s = match v with
    | .slice base sLen sCap => appendOf T el base sLen sCap xs s
    | _ => none := by
    unfold append
    simp only [A.und,A.arg]
    cases v <;> rfl
  rw [e0]
  obtain ⟨hl1,hl2⟩ := hl
  rcases hl2 with ⟨rfl,a,rfl,ha⟩ | ⟨N,rfl,hr,hN⟩
  · simp only
    unfold appendOf
    simp only [bnd,lift,A.size,A.bytes,hz,hx1,hx2]
    rw [if_neg (by decide)]
    have hst : ∀ M,¬ Struck (.slice a 0 0) M := fun M ⟨len,cap,h,hcp⟩ => by cases h; exact absurd hcp (by decide)
    by_cases hy : ys = []
    · subst hy
      rw [if_pos (by simp)]
      refine ⟨.slice a 0 0,s,?_,Nat.le_refl _,⟨by simp,.inl ⟨rfl,a,rfl,ha⟩⟩,⟨[],rfl,fun _ h => by cases h⟩,fun _ _ _ => rfl⟩
      rcases ha with rfl | ⟨N,rfl⟩
      · rfl
      · rfl
    · have hyl : 0 < ys.length := List.length_pos_iff.2 hy
      rw [if_neg (by omega)]
      have hf : firstCells 0 k (.slice a 0 0) s = some ([],s) := by
        rcases ha with rfl | ⟨N,rfl⟩ <;> rfl
      unfold appendNew
      simp only [bnd,hf]
      rw [if_pos ⟨hpos,hklt,by simpa using hb,by simpa [END] using hb2,hfl,by simp,hzk⟩]
      refine ⟨_,_,rfl,Nat.le_succ _,⟨by simpa using hb2,.inr ⟨s.next,by simp,⟨?_,Nat.lt_succ_self _⟩,hlo⟩⟩,⟨[],rfl,fun _ h => by cases h⟩,fun M hM _ => Tree.get_set_ne _ _ (by omega)⟩
      simp only [List.nil_append]
      exact Tree.get_set_same _ _ _
  · simp only
    unfold appendOf
    simp only [bnd,lift,A.size,A.bytes,hz,hx1,hx2]
    rw [if_pos (by omega)]
    simp only [if_true]
    unfold appendEnd
    have hslice : Ev.slice (l.map c).flatten 0 (l.length * k) = some ((l.map c).flatten) := by
      unfold Ev.slice
      simp only [List.drop_zero]
      rw [List.take_of_length_le (by rw [flat_len hc]; exact Nat.le_refl _),if_pos (flat_len hc l)]
    simp only [bnd,rowOf,hr.get,hslice,lift]
    rw [if_pos ⟨trivial,hpos,hklt,by decide,Nat.zero_le _,hb,by simpa [END] using hb2,hall,hfl,hzk,Nat.zero_mod _⟩]
    have hd : delB N s = some ((),{ s with t := s.t.set N none,mods := N :: s.mods }) := by unfold delB; rw [hr.get]
    simp only [bnd,hd,newB,ret]
    refine ⟨_,_,rfl,Nat.le_succ _,⟨by simpa using hb2,.inr ⟨s.next,by simp,⟨?_,Nat.lt_succ_self _⟩,hlo⟩⟩,⟨[N],rfl,fun M hM => ?_⟩,fun M hM hne => ?_⟩
    · simp only [List.map_append,List.flatten_append,Nat.sub_zero]
      exact Tree.get_set_same _ _ _
    · simp at hM; subst hM; exact ⟨_,_,rfl,by omega⟩
    · simp only
      have hMN : M ≠ N := fun h => hne ⟨_,_,by rw [h],by omega⟩
      rw [Tree.get_set_ne _ _ (Nat.ne_of_lt hM),Tree.get_set_ne _ _ hMN]
section
variable {T : Tab} {fr : Fr} {s s0 : St} {ops : Array Oper} {o : Oper} {os : List Oper} {Q : Fr → St → Prop}
theorem Own.append {z s1 : St} {α : Type} {c : α → List Value} {k lo : Nat} {el : TypeId} {v : Value} {l : List α} (hz : Own z s) (hl : OL c k el lo s.t s.next v l) (hlo : z.next ≤ lo) (h1 : s.next ≤ s1.next) (h2 : ∃ m,s1.mods = m ++ s.mods ∧ ∀ N ∈ m,Struck v N) (h3 : ∀ M,M < s.next → ¬ Struck v M → s1.t.get M = s.t.get M) : Own z s1 := by
  have key : ∀ M,Struck v M → z.next ≤ M ∧ M < s.next := fun M ⟨len,cap,e,hcap⟩ => by
    obtain ⟨_,hl2⟩ := hl
    rcases hl2 with ⟨_,a,h,_⟩ | ⟨N,h,hr,hN⟩
    · rw [e] at h; cases h; exact absurd hcap (by decide)
    · rw [e] at h; cases h; exact ⟨Nat.le_trans hlo hN,hr.lt⟩
  obtain ⟨m,h4,h5⟩ := h2
  obtain ⟨q,h6,h7⟩ := hz.mods
  refine ⟨Nat.le_trans hz.next h1,⟨m ++ q,by rw [h4,h6,List.append_assoc],fun N hN => ?_⟩,fun N hN => ?_⟩
  · rcases List.mem_append.1 hN with hN | hN
    · have := key N (h5 N hN); omega
    · have := h7 N hN; omega
  · rw [h3 N (Nat.lt_of_lt_of_le hN hz.next) fun hs => by have := key N hs; omega]
    exact hz.old N hN
theorem Own.store {z s1 : St} {N : Nat} (hz : Own z s) (hN : z.next ≤ N) (hlt : N < s.next) (hm : ∃ m,s1.mods = m ++ s.mods ∧ ∀ M ∈ m,M = N) (hn : s1.next = s.next) (hu : ∀ M,M ≠ N → s1.t.get M = s.t.get M) : Own z s1 := by
  obtain ⟨m,h1,h2⟩ := hm
  obtain ⟨q,h3,h4⟩ := hz.mods
  refine ⟨by rw [hn]; exact hz.next,⟨m ++ q,by rw [h1,h3,List.append_assoc],fun M hM => ?_⟩,fun M hM => (hu M (by omega)).trans (hz.old M hM)⟩
  rcases List.mem_append.1 hM with hM | hM
  · have := h2 M hM; omega
  · have := h4 M hM; omega
theorem W.store2 {t : TypeId} {a x : Operand} {N p e hi : Nat} {vs vs' cs : List Value} {fr1 : Fr} (hO : Own s0 s) (r : Row s.t s.next N vs e hi) (hN : s0.next ≤ N) (hw : Region.wanted o (yieldedL ops fr.tmps) = true) (ho : o.op = .store t a x) (hx : fr.eval a = .pointer (some ⟨N,p,none⟩)) (hv : cellsOf (fr.eval x) = cs)
    (hz : T.size t = some cs.length) (h0 : cs ≠ []) (hh : hi < END ∧ hi ≤ p ∧ p + cs.length ≤ vs.length ∧ cs.all oneCell = true) (hp : putAt vs p cs = vs') (hf : fr.put o.dst undef = fr1)
    (h : ∀ s1 : St,Own s0 s1 → s1.next = s.next → (∀ M,M ≠ N → s1.t.get M = s.t.get M) → Row s1.t s1.next N vs' e hi → (∀ z : St,Own z s → z.next ≤ N → Own z s1) → EndsOps T ops os fr1 s1 Q) : EndsOps T ops (o :: os) fr s Q := by
  subst hp
  have hc : noCall o.op = true := by rw [ho]; rfl
  have own : ∀ z : St,Own z s → z.next ≤ N → Own z { s with t := s.t.set N (some (.cells (putAt vs p cs) e hi)),mods := N :: s.mods } := fun z hz hzN =>
    Own.store hz hzN r.lt ⟨[N],rfl,fun M hM => by simpa using hM⟩ rfl fun M hM => Tree.get_set_ne _ _ hM
  refine EndsOps.plain1 hw (v := undef) (s1 := { s with t := s.t.set N (some (.cells (putAt vs p cs) e hi)),mods := N :: s.mods }) ?_ (noCall_ne hc) hf (h _ (own s0 hO hN) rfl (fun M hM => Tree.get_set_ne _ _ hM) ⟨Tree.get_set_same _ _ _,r.lt⟩ own)
  rw [ho]
  unfold evPlain
  cases hcs : cs with
  | nil => exact absurd hcs h0
  | cons c0 cr =>
    simp only [hx,addr,bnd,ret,storeVar,hz,hv,if_true]
    rw [← hcs]
    unfold storeCells
    rw [hcs]
    simp only [bnd,rowOf,r.get]
    rw [← hcs,if_pos hh]
    simp only [setB,r.get]
end
end Go.Ev

/-
  EV: what the functions of lists of edits compute, in plain Lean.
-/
namespace Go.Ev
open Go
abbrev Within (e : Ed) (n : Int) : Prop := 0 ≤ e.lo ∧ e.lo ≤ e.hi ∧ e.hi ≤ n
abbrev Behind (a e : Ed) : Prop := a.hi ≤ e.lo ∧ a.lo < e.lo
abbrev Nothing (e : Ed) : Prop := e.lo = e.hi ∧ B e.tx = B ByteArray.empty
def OkAt (l : List Ed) (n : Int) (i : Nat) : Prop := ∀ e,l[i]? = some e → Within e n ∧ ∀ a,0 < i → l[i - 1]? = some a → Behind a e
def Ok (l : List Ed) (n : Int) (i : Nat) : Prop := ∀ k,k < i → OkAt l n k
def Right (l : List Ed) (n : Int) : Prop := 0 ≤ n ∧ ∀ k,k < l.length → OkAt l n k
noncomputable instance (l : List Ed) (n : Int) : Decidable (Right l n) := Classical.propDecidable _
theorem Ok.step0 {l : List Ed} {n : Int} {i : Nat} {e : Ed} (h : Ok l n i) (he : l[i]? = some e) (hw : Within e n) (h0 : i = 0) : Ok l n (i + 1) := fun k hk => by
  by_cases hki : k = i
  · subst hki; intro e' he'; rw [he] at he'; cases he'; exact ⟨hw,fun _ h => by omega⟩
  · exact h k (by omega)
theorem Ok.step {l : List Ed} {n : Int} {i q : Nat} {e a : Ed} (h : Ok l n i) (he : l[i]? = some e) (hw : Within e n) (ha : l[q]? = some a) (hq : i = q + 1) (hb : Behind a e) : Ok l n (i + 1) := fun k hk => by
  by_cases hki : k = i
  · subst hki; intro e' he'; rw [he] at he'; cases he'
    refine ⟨hw,fun a' _ ha' => ?_⟩
    rw [hq,Nat.add_sub_cancel,ha] at ha'; cases ha'; exact hb
  · exact h k (by omega)
theorem Ok.at {l : List Ed} {n : Int} {i k : Nat} {e : Ed} (h : Ok l n i) (he : l[k]? = some e) (hk : k < i) : Within e n := (h k hk e he).1
theorem Right.at {l : List Ed} {n : Int} {i q : Nat} {e a : Ed} (h : Right l n) (he : l[i]? = some e) (ha : l[q]? = some a) (hq : i = q + 1) : Behind a e := by
  obtain ⟨hl,_⟩ := List.getElem?_eq_some_iff.1 he
  exact (h.2 i hl e he).2 a (by omega) (by rw [hq,Nat.add_sub_cancel]; exact ha)
structure Ed.Ok (e : Ed) : Prop where
  lo1 : -9223372036854775808 ≤ e.lo
  lo2 : e.lo < 9223372036854775808
  hi1 : -9223372036854775808 ≤ e.hi
  hi2 : e.hi < 9223372036854775808
  tx : (B e.tx).length ≤ 140737488351232
def sumT (l : List Ed) : Nat := (l.map fun e => (B e.tx).length).sum
theorem sumT_step {l : List Ed} {i : Nat} {e : Ed} (he : l[i]? = some e) : sumT (l.take (i + 1)) = sumT (l.take i) + (B e.tx).length := by
  unfold sumT
  rw [List.take_add_one,he]
  simp
theorem sumT_le (l : List Ed) (i : Nat) : sumT (l.take i) ≤ sumT l := by
  unfold sumT
  conv => rhs; rw [← List.take_append_drop i l]
  rw [List.map_append,List.sum_append]
  omega
def growS (l : List Ed) : Int := (l.map fun e => ((B e.tx).length : Int) - (e.hi - e.lo)).sum
theorem growS_step {l : List Ed} {i : Nat} {e : Ed} (he : l[i]? = some e) : growS (l.take (i + 1)) = growS (l.take i) + (((B e.tx).length : Int) - (e.hi - e.lo)) := by
  unfold growS
  rw [List.take_add_one,he]
  simp
theorem W_def (x : Int) : W x = if 9223372036854775808 ≤ x % 18446744073709551616 then x % 18446744073709551616 - 18446744073709551616 else x % 18446744073709551616 := by
  unfold W IntKind.wrap
  simp [IntKind.signed,IntKind.bits]
theorem W_grow1 {l : List Ed} {i : Nat} {e : Ed} (he : l[i]? = some e) : W (W (growS (l.take i)) + W ((((B e.tx).length : Nat) : Int) - W (e.hi - e.lo))) = W (growS (l.take (i + 1))) := by
  rw [growS_step he]
  simp only [W_def]
  omega
def firstN (l : List Ed) : Int := match l.findIdx? (fun e => decide (Nothing e)) with
  | some i => (i : Int)
  | none => -1
def NoN (l : List Ed) (i : Nat) : Prop := ∀ k,k < i → ∀ e,l[k]? = some e → ¬ Nothing e
theorem NoN.step {l : List Ed} {i : Nat} {e : Ed} (h : NoN l i) (he : l[i]? = some e) (hn : ¬ Nothing e) : NoN l (i + 1) := fun k hk e' he' => by
  by_cases hki : k = i
  · subst hki; rw [he] at he'; cases he'; exact hn
  · exact h k (by omega) e' he'
theorem firstN_none {l : List Ed} {i : Nat} (h : NoN l i) (hi : l.length ≤ i) : firstN l = -1 := by
  have : l.findIdx? (fun e => decide (Nothing e)) = none := by
    rw [List.findIdx?_eq_none_iff]
    intro e he
    obtain ⟨k,hk⟩ := List.getElem?_of_mem he
    obtain ⟨hkl,_⟩ := List.getElem?_eq_some_iff.1 hk
    exact decide_eq_false (h k (by omega) e hk)
  unfold firstN; rw [this]
theorem NoN.none {l : List Ed} {i : Nat} (h : NoN l i) (hi : l.length ≤ i) : ¬ 0 ≤ firstN l := by rw [firstN_none h hi]; decide
def Apt (l : List Ed) (i : Nat) : Prop := ∀ k,k < i → ∀ e a,l[k]? = some e → 0 < k → l[k - 1]? = some a → ¬ e.lo = a.hi
theorem Apt.one (l : List Ed) : Apt l 1 := fun k hk e a _ h => by omega
theorem Apt.step0 {l : List Ed} {i : Nat} (h : Apt l i) (h0 : i = 0) : Apt l (i + 1) := fun k hk e a _ h => by omega
theorem Apt.step {l : List Ed} {i q : Nat} {e a : Ed} (h : Apt l i) (he : l[i]? = some e) (ha : l[q]? = some a) (hq : i = q + 1) (hne : ¬ e.lo = a.hi) : Apt l (i + 1) := fun k hk e' a' he' h0 ha' => by
  by_cases hki : k = i
  · subst hki; rw [he] at he'; cases he'; rw [show k - 1 = q by omega,ha] at ha'; cases ha'; exact hne
  · exact h k (by omega) e' a' he' h0 ha'
def Plain (l : List Ed) (n : Int) : Prop := Right l n ∧ ¬ 0 ≤ firstN l ∧ ∀ k,k < l.length → ∀ e a,l[k]? = some e → 0 < k → l[k - 1]? = some a → ¬ e.lo = a.hi
noncomputable instance (l : List Ed) (n : Int) : Decidable (Plain l n) := Classical.propDecidable _
end Go.Ev

/-
  EV: what the functions of the layer shift compute, in plain Lean.
-/
namespace Go.Ev
open Go
theorem foldl_step {α β : Type} {f : β → α → β} {b : β} {l : List α} {i : Nat} {e : α} (he : l[i]? = some e) : (l.take (i + 1)).foldl f b = f ((l.take i).foldl f b) e := by
  rw [List.take_add_one,he]; simp [List.foldl_append]
def NoB {α : Type} (p : α → Prop) (l : List α) (i : Nat) : Prop := ∀ k,k < i → ∀ x,l[k]? = some x → ¬ p x
theorem NoB.zero {α : Type} {p : α → Prop} {l : List α} : NoB p l 0 := fun k hk => absurd hk (Nat.not_lt_zero k)
theorem NoB.step {α : Type} {p : α → Prop} {l : List α} {i : Nat} {e : α} (h : NoB p l i) (he : l[i]? = some e) (hn : ¬ p e) : NoB p l (i + 1) := fun k hk x hx => by
  by_cases hki : k = i
  · subst hki; rw [he] at hx; cases hx; exact hn
  · exact h k (by omega) x hx
theorem NoB.find_at {α : Type} {p : α → Prop} [DecidablePred p] {l : List α} {i : Nat} {e : α} (h : NoB p l i) (he : l[i]? = some e) (hp : p e) : l.find? (fun x => decide (p x)) = some e := by
  induction l generalizing i with
  | nil => simp at he
  | cons x l ih =>
    cases i with
    | zero => simp at he; subst he; simp [hp]
    | succ i =>
      have hx : ¬ p x := h 0 (by omega) x rfl
      rw [List.find?_cons_of_neg (by simpa using hx)]
      exact ih (i := i) (fun k hk y hy => h (k + 1) (by omega) y (by simpa using hy)) (by simpa using he)
theorem NoB.find_none {α : Type} {p : α → Prop} [DecidablePred p] {l : List α} {i : Nat} (h : NoB p l i) (hi : l.length ≤ i) : l.find? (fun x => decide (p x)) = none := by
  rw [List.find?_eq_none]
  intro x hx
  obtain ⟨k,hk⟩ := List.getElem?_of_mem hx
  obtain ⟨hl,_⟩ := List.getElem?_eq_some_iff.1 hk
  simpa using h k (by omega) x hk
theorem NoB.idx_at {α : Type} {p : α → Prop} [DecidablePred p] {l : List α} {i : Nat} {e : α} (h : NoB p l i) (he : l[i]? = some e) (hp : p e) : l.findIdx? (fun x => decide (p x)) = some i := by
  obtain ⟨hi,rfl⟩ := List.getElem?_eq_some_iff.1 he
  rw [List.findIdx?_eq_some_iff_getElem]
  refine ⟨hi,decide_eq_true hp,fun j hj => ?_⟩
  have := h j hj l[j] (List.getElem?_eq_getElem (by omega))
  simpa using this
def errV (c : Int) : Value := if c = 0 then .nilIface else .iface 37 (.int .i64 c)
structure Run where
  fr : Int
  to : Int
  by' : Int
abbrev Run.cells (r : Run) : List Value := [.int .i64 r.fr,.int .i64 r.to,.int .i64 r.by']
theorem Run.one : ∀ y : Run,∀ v ∈ y.cells,oneCell v = true := by intro y v hv; simp at hv; rcases hv with rfl | rfl | rfl <;> rfl
def runStep (p : List Run × Int × Int) (e : Ed) : List Run × Int × Int := (p.1 ++ [⟨p.2.1,e.lo,p.2.2⟩],e.hi,W (p.2.2 + W ((((B e.tx).length : Nat) : Int) - W (e.hi - e.lo))))
def runF (l : List Ed) : List Run × Int × Int := l.foldl runStep ([],0,0)
theorem runF_step {l : List Ed} {i : Nat} {e : Ed} (he : l[i]? = some e) : runF (l.take (i + 1)) = runStep (runF (l.take i)) e := foldl_step he
theorem runF_len : ∀ (l : List Ed) (p : List Run × Int × Int),(l.foldl runStep p).1.length = p.1.length + l.length
  | [],p => by simp
  | e :: l,p => by simp [runF_len l,runStep]; omega
theorem runF_len' {l : List Ed} {i : Nat} (hi : i ≤ l.length) : (runF (l.take i)).1.length = i := by
  unfold runF; rw [runF_len]; simp; omega
def runsS (l : List Ed) (n : Int) : List Run := (runF l).1 ++ [⟨(runF l).2.1,n,(runF l).2.2⟩]
theorem runsS_len (l : List Ed) (n : Int) : (runsS l n).length = l.length + 1 := by
  unfold runsS runF; rw [List.length_append,runF_len]; simp
abbrev InR (q : Int) (r : Run) : Prop := r.fr ≤ q ∧ q < r.to
abbrev InC (q : Int) (r : Run) : Prop := W (r.fr + r.by') ≤ q ∧ q < W (r.to + r.by')
def goS (l : List Ed) (n q : Int) : Int × Int := match (runsS l n).find? (fun r => decide (InR q r)) with
  | some r => (W (q + r.by'),0)
  | none => (0,5)
def caS (l : List Ed) (n q : Int) : Int × Int := match (runsS l n).find? (fun r => decide (InC q r)) with
  | some r => (W (q - r.by'),0)
  | none => (0,5)
theorem goS_at {l : List Ed} {n q : Int} {i : Nat} {r : Run} (h : NoB (InR q) (runsS l n) i) (he : (runsS l n)[i]? = some r) (hp : InR q r) : goS l n q = (W (q + r.by'),0) := by
  unfold goS; rw [h.find_at he hp]
theorem goS_none {l : List Ed} {n q : Int} {i : Nat} (h : NoB (InR q) (runsS l n) i) (hi : (runsS l n).length ≤ i) : goS l n q = (0,5) := by
  unfold goS; rw [h.find_none hi]
theorem caS_at {l : List Ed} {n q : Int} {i : Nat} {r : Run} (h : NoB (InC q) (runsS l n) i) (he : (runsS l n)[i]? = some r) (hp : InC q r) : caS l n q = (W (q - r.by'),0) := by
  unfold caS; rw [h.find_at he hp]
theorem caS_none {l : List Ed} {n q : Int} {i : Nat} (h : NoB (InC q) (runsS l n) i) (hi : (runsS l n).length ≤ i) : caS l n q = (0,5) := by
  unfold caS; rw [h.find_none hi]
structure Sp where
  a : Int
  b : Int
abbrev Sp.cells (r : Sp) : List Value := [.int .i64 r.a,.int .i64 r.b]
theorem Sp.one : ∀ y : Sp,∀ v ∈ y.cells,oneCell v = true := by intro y v hv; simp at hv; rcases hv with rfl | rfl <;> rfl
def spanStep (p : List Sp × Int) (e : Ed) : List Sp × Int := (p.1 ++ [⟨W (e.lo + p.2),W (W (e.lo + p.2) + (((B e.tx).length : Nat) : Int))⟩],W (p.2 + W ((((B e.tx).length : Nat) : Int) - W (e.hi - e.lo))))
def spanF (l : List Ed) : List Sp × Int := l.foldl spanStep ([],0)
def spansS (l : List Ed) : List Sp := (spanF l).1
theorem spanF_step {l : List Ed} {i : Nat} {e : Ed} (he : l[i]? = some e) : spanF (l.take (i + 1)) = spanStep (spanF (l.take i)) e := foldl_step he
theorem spanF_len : ∀ (l : List Ed) (p : List Sp × Int),(l.foldl spanStep p).1.length = p.1.length + l.length
  | [],p => by simp
  | e :: l,p => by simp [spanF_len l,spanStep]; omega
theorem spanF_len' {l : List Ed} {i : Nat} (hi : i ≤ l.length) : (spanF (l.take i)).1.length = i := by
  unfold spanF; rw [spanF_len]; simp; omega
def upTo (a b : Int) : List Int := (List.range (b - a).toNat).map fun k : Nat => a + (k : Int)
theorem upTo_len {a b : Int} : (upTo a b).length = (b - a).toNat := by simp [upTo]
def fromStep (p : List Int × Int) (e : Ed) : List Int × Int := (p.1 ++ upTo p.2 e.lo ++ List.replicate (B e.tx).length (-1),e.hi)
def fromF (l : List Ed) : List Int × Int := l.foldl fromStep ([],0)
def fromS (l : List Ed) (n : Int) : List Int := (fromF l).1 ++ upTo (fromF l).2 n
theorem fromF_step {l : List Ed} {i : Nat} {e : Ed} (he : l[i]? = some e) : fromF (l.take (i + 1)) = fromStep (fromF (l.take i)) e := foldl_step he
def rgoS (l : List Ed) (n q : Int) : Int × Int := match (fromS l n).findIdx? (fun x => decide (x = q ∧ 0 ≤ q)) with
  | some i => ((i : Int),0)
  | none => (0,5)
def rcaS (l : List Ed) (n q : Int) : Int × Int := if q < 0 then (0,5) else match (fromS l n)[q.toNat]? with
  | some x => if x < 0 then (0,5) else (x,0)
  | none => (0,5)
abbrev Large3 (n : Int) (l : List Ed) : Prop := 31 < l.length ∨ 500 < sumT l ∨ 500 < n
end Go.Ev

/-
  EV: the rules of a printed walk, fourth part: texts, functions that write what was their caller's, Builders.
-/
namespace Go.Ev
open Go Go.RowKit
def sub (x : ByteArray) (l h : Nat) : ByteArray := ⟨⟨((B x).drop l).take (h - l)⟩⟩
theorem B_sub (x : ByteArray) (l h : Nat) : B (sub x l h) = ((B x).drop l).take (h - l) := rfl
theorem sub_len {x : ByteArray} {l h : Nat} (h1 : l ≤ h) (h2 : h ≤ (B x).length) : (B (sub x l h)).length = h - l := by
  rw [B_sub,List.length_take,List.length_drop]; omega
section
variable {T : Tab} {ρ : Operand → Value} {s : St}
theorem p_sub {ty : TypeId} {x lo hi : Operand} {t : ByteArray} {a b : Int} (hu : T.und ty = some .string) (hx : ρ x = .string t) (hlo : ρ lo = .int .i64 a) (hhi : ρ hi = .int .i64 b) (h0 : 0 ≤ a) (h1 : a ≤ b) (h2 : b ≤ ((B t).length : Int)) :
    evPlain T ρ (.slice ty x (some lo) (some hi) none) s = some (.string (sub t a.toNat b.toNat),s) := by
  unfold evPlain
  simp only [Option.isSome_none,Bool.false_and,Bool.false_eq_true,if_false,Option.map_some,Option.map_none,hx,hlo,hhi]
  unfold sliceOp
  simp only [hu,bound,if_pos h0,if_pos (Int.le_trans h0 h1)]
  rw [if_pos ⟨rfl,by omega,by show b.toNat ≤ (B t).length; omega⟩]
  rfl
theorem p_subFrom {ty : TypeId} {x lo : Operand} {t : ByteArray} {a : Int} (hu : T.und ty = some .string) (hx : ρ x = .string t) (hlo : ρ lo = .int .i64 a) (h0 : 0 ≤ a) (h2 : a ≤ ((B t).length : Int)) :
    evPlain T ρ (.slice ty x (some lo) none none) s = some (.string (sub t a.toNat (B t).length),s) := by
  unfold evPlain
  simp only [Option.isSome_none,Bool.false_and,Bool.false_eq_true,if_false,Option.map_some,Option.map_none,hx,hlo]
  unfold sliceOp
  simp only [hu,bound,if_pos h0]
  rw [if_pos ⟨rfl,by show a.toNat ≤ (B t).length; omega,Nat.le_refl _⟩]
  rfl
end
theorem Own.trim {s0 s s1 : St} (h0 : Own s0 s) (h : Own s0 s1) (hx : s.next ≤ s1.next) : Own s0 { s1 with mods := Ev.newMods s s1 ++ s.mods } := by
  obtain ⟨q,h1,h2⟩ := h.mods
  obtain ⟨p,h3,h4⟩ := h0.mods
  refine ⟨h.next,⟨Ev.newMods s s1 ++ p,by simp only [h3,List.append_assoc],fun N hN => ?_⟩,h.old⟩
  rcases List.mem_append.1 hN with hN | hN
  · unfold Ev.newMods at hN
    obtain ⟨hN,_⟩ := List.mem_filter.1 hN
    rw [h1,h3,List.length_append,List.length_append,List.take_append_of_le_length (by omega)] at hN
    exact h2 N (List.mem_of_mem_take hN)
  · have := h4 N hN; simp only; omega
def EndsOn (T : Tab) (f : FuncId) (args : List Value) (s0 s : St) (R : Value → Tree → Nat → Prop) : Prop := EndsCall T f args s fun v s' => Own s0 s' ∧ s.next ≤ s'.next ∧ R v s'.t s'.next
def FinOn (s0 s : St) (rs : List Tmp) (R : Value → Tree → Nat → Prop) (e : Ex) (fr : Fr) (s1 : St) : Prop := isExit e = false ∧ fr.defers = [] ∧ (Own s0 s1 ∧ s.next ≤ s1.next) ∧ R (valOf (rs.map (fr.tmps.getD · undef))) s1.t s1.next
section
variable {T : Tab} {fr : Fr} {s s0 : St} {ops : Array Oper} {o : Oper} {os : List Oper} {Q : Fr → St → Prop}
theorem EndsOn.of {f : FuncId} {n : Nat} {body : Code} {rs : List Tmp} {args : List Value} {fr0 : Fr} {R : Value → Tree → Nat → Prop} (hF : T.fn f = some ⟨n,body,rs.map ResultVar.tmp⟩) (h0 : (⟨args ++ List.replicate (n - args.length) undef,[]⟩ : Fr) = fr0) (hO : Own s0 s)
    (h : Ends T ⟨f,none⟩ body fr0 s (FinOn s0 s rs R)) : EndsOn T f args s0 s R :=
  EndsCall.of1 hF h0 (h.mono fun e fr s1 ⟨h1,h2,h3,h4⟩ => ⟨h1,h2,hO.trim h3.1 h3.2,h3.2,h4⟩)
theorem EndsOn.mono {f : FuncId} {args : List Value} {R R' : Value → Tree → Nat → Prop} (h : EndsOn T f args s0 s R) (hr : ∀ v t n,R v t n → R' v t n) : EndsOn T f args s0 s R' := EndsCall.mono h fun _ _ ⟨h1,h2,h3⟩ => ⟨h1,h2,hr _ _ _ h3⟩
theorem W.callOn {f : Operand} {args : Array Operand} {ts : Array TypeId} {g : FuncId} {ar : List Value} {R : Value → Tree → Nat → Prop} {fF : Value → Fr} (hw : Region.wanted o (yieldedL ops fr.tmps) = true) (ho : o.op = .call ⟨.value f,args,ts⟩)
    (hf : fr.eval f = .func (.func g) #[] #[]) (ha : args.toList.map fr.eval = ar) (hR : EndsOn T g ar s0 s R) (hp : ∀ v,fr.put o.dst v = fF v) (h : ∀ v s1,R v s1.t s1.next → Own s0 s1 → s.next ≤ s1.next → EndsOps T ops os (fF v) s1 Q) : EndsOps T ops (o :: os) fr s Q := by
  refine EndsOps.call1 hw ho hf rfl (R := fun v s' => Own s0 s' ∧ s.next ≤ s'.next ∧ R v s'.t s'.next) ?_ fun v s1 ⟨hk,hn,hv⟩ => by rw [hp]; exact h v s1 hv hk hn
  simp only [List.nil_append,List.append_nil,ha]; exact hR
end
def byteCell (b : UInt8) : List Value := [.int .u8 b.toNat]
theorem byteOne : ∀ y : UInt8,∀ v ∈ byteCell y,oneCell v = true := by intro y v hv; simp [byteCell] at hv; subst hv; rfl
theorem byteVals_flat (l : List UInt8) : byteVals l = (l.map byteCell).flatten := by
  unfold byteVals
  induction l with
  | nil => rfl
  | cons a r ih => simp only [List.map_cons,List.flatten_cons,ih]; rfl
theorem bytesOf_flat : ∀ l : List UInt8,bytesOf ((l.map byteCell).flatten) = some l
  | [] => rfl
  | b :: r => by
    show (bytesOf ((r.map byteCell).flatten)).map (UInt8.ofNat (Int.toNat (b.toNat : Int)) :: ·) = _
    rw [bytesOf_flat r]; simp
def Oth (X : TypeId → Bool) (s s' : St) : Prop := ∀ M vs e hi,Row s.t s.next M vs e hi → X e = false → Row s'.t s'.next M vs e hi
theorem Oth.refl (X : TypeId → Bool) (s : St) : Oth X s s := fun _ _ _ _ h _ => h
theorem Oth.trans {X : TypeId → Bool} {a b c : St} (h : Oth X a b) (k : Oth X b c) : Oth X a c := fun M vs e hi r hx => k M vs e hi (h M vs e hi r hx) hx
theorem Oth.own {X : TypeId → Bool} {a b c : St} (h : Oth X a b) (k : Own b c) : Oth X a c := fun M vs e hi r hx => (h M vs e hi r hx).own k
theorem Row.ne {t : Tree} {n N M e e' hi hi' : Nat} {vs vs' : List Value} (r : Row t n N vs e hi) (r' : Row t n M vs' e' hi') (h : e ≠ e') : N ≠ M := by
  intro hN; subst hN; have := r.get.symm.trans r'.get; cases this; exact h rfl
theorem Oth.upd {X : TypeId → Bool} {a b c : St} {N e hi : Nat} {vs : List Value} (h : Oth X a b) (r : Row b.t b.next N vs e hi) (hX : X e = true) (hn : c.next = b.next) (hu : ∀ M,M ≠ N → c.t.get M = b.t.get M) : Oth X a c := fun M vs' e' hi' r' hx => by
  have h1 := h M vs' e' hi' r' hx
  exact h1.upd hn hu (h1.ne r (fun he => by subst he; rw [hX] at hx; cases hx))
section
variable {T : Tab} {fr : Fr} {s s0 : St} {ops : Array Oper} {o : Oper} {os : List Oper} {Q : Fr → St → Prop}
theorem endsExt {f : FuncId} {g : List Value → Option Value} {x y : Value} (hf : T.fn f = none) (hg : T.ext f = some g) (h : g [x] = some y) : EndsPure T f [x] s fun v _ _ => v = y := by
  refine ⟨0,y,s,?_,Keep.refl s,rfl⟩
  unfold evCall enter
  simp only [hf,hg,lift,h]
theorem p_toU {ρ : Operand → Value} {a b t e hi n k N p : Nat} {vs : List Value} {x : Operand} (ha : T.und a = some (.pointer t)) (hb : T.und b = some .unsafePointer) (hs : T.size t = some (k + 1)) (hx : ρ x = .pointer (some ⟨N,p,none⟩)) (r : Row s.t n N vs e hi) (hp : p < vs.length) :
    evPlain T ρ (.convert a b x) s = some (.pointer (some ⟨N,p,none⟩),s) := by
  unfold evPlain
  simp only [hx,convert,ha,hb,convertD,toUnsafe,hs,bnd,rowOf,r.get,if_pos hp,ret]
theorem p_fromU {ρ : Operand → Value} {a b t hi n k N : Nat} {vs : List Value} {x : Operand} (ha : T.und a = some .unsafePointer) (hb : T.und b = some (.pointer t)) (hs : T.size t = some (k + 1)) (hx : ρ x = .pointer (some ⟨N,0,none⟩)) (r : Row s.t n N vs t hi) (hh : hi < END) (hp : k < vs.length) :
    evPlain T ρ (.convert a b x) s = some (.pointer (some ⟨N,0,none⟩),s) := by
  unfold evPlain
  simp only [hx,convert,ha,hb,convertD,fromUnsafe,hs,bnd,rowOf,r.get]
  rw [if_pos ⟨trivial,hh,Nat.zero_mod _,by omega⟩]; rfl
theorem W.appendStr {X : TypeId → Bool} {b : Nat} {el sT xT : TypeId} {l : List UInt8} {x : ByteArray} {v : Value} {p q : Operand} {fF : Value → Fr} (A : AppOk T sT xT el 1 b) (hO : Own s0 s) (hX : X el = true) (hl : OL byteCell 1 el s0.next s.t s.next v l) (hv : l = [] → v = .slice none 0 0)
    (hw : Region.wanted o (yieldedL ops fr.tmps) = true) (ho : o.op = .call ⟨.builtin .append,#[p,q],#[sT,xT]⟩) (hp : fr.eval p = v) (hq : fr.eval q = .string x) (hb : (l.length + (Ev.B x).length) * b ≤ 140737488355328)
    (hf : ∀ v',fr.put o.dst v' = fF v')
    (h : ∀ v' s1,Own s0 s1 → s.next ≤ s1.next → Oth X s s1 → OL byteCell 1 el s0.next s1.t s1.next v' (l ++ Ev.B x) → (l ++ Ev.B x = [] → v' = .slice none 0 0) → EndsOps T ops os (fF v') s1 Q) (hb0 : 0 < b) : EndsOps T ops (o :: os) fr s Q := by
  have hc' : noCall o.op = true := by rw [ho]; rfl
  have hbb : l.length + (Ev.B x).length ≤ 140737488355328 := Nat.le_trans (Nat.le_mul_of_pos_right _ hb0) hb
  have hfc : firstCells (Ev.B x).length 1 (.string x) s = some (((Ev.B x).map byteCell).flatten,s) := by
    unfold firstCells
    simp only [ret]
    rw [show x.data.toList.take (Ev.B x).length = Ev.B x from List.take_length,byteVals_flat]
  obtain ⟨v',s1,e1,e2',e3,e4,e5⟩ := append_run A (fun _ => rfl) byteOne hl hO.next (xs := .string x) (ys := Ev.B x) rfl hfc hb (by omega)
  have hnil : l ++ Ev.B x = [] → v' = .slice none 0 0 := fun h0 => by
    obtain ⟨h1,h2⟩ := List.append_eq_nil_iff.1 h0
    have hv0 := hv h1
    subst hv0
    obtain ⟨z,hz,_⟩ := A.zero
    have e6 : Ev.append T [sT,xT] [.slice none 0 0,.string x] s = some (.slice none 0 0,s) := by
      unfold Ev.append
      simp only [A.und,A.arg]
      unfold appendOf
      have hl0 : x.data.toList.length = 0 := by have : (Ev.B x).length = 0 := by rw [h2]; rfl
                                                exact this
      simp only [bnd,lift,A.size,A.bytes,hz,lenOf,hl0,firstCells,ret]
      rw [if_neg (by decide),if_pos (by decide)]
      rfl
    rw [e6] at e1; cases e1; rfl
  refine EndsOps.plain1 hw (v := v') (s1 := s1) ?_ (noCall_ne hc') (hf v') (h v' s1 (Own.append hO hl (Nat.le_refl _) e2' e4 e5) e2' (fun M vs e hi r hx => ⟨(e5 M r.lt fun ⟨len,cap,he,hcap⟩ => ?_).trans r.get,Nat.lt_of_lt_of_le r.lt e2'⟩) e3 hnil)
  · rw [ho]
    show Ev.append T [sT,xT] [fr.eval p,fr.eval q] s = _
    rw [hp,hq]; exact e1
  · obtain ⟨_,hl2⟩ := hl
    rcases hl2 with ⟨_,a,h,_⟩ | ⟨N,h,hr,hN⟩
    · rw [he] at h; cases h; exact absurd hcap (by decide)
    · rw [he] at h; cases h
      have := r.get.symm.trans hr.get
      cases this; rw [hX] at hx; cases hx
end
theorem OL.oth {α : Type} {c : α → List Value} {k : Nat} {el : TypeId} {lo : Nat} {v : Value} {l : List α} {X : TypeId → Bool} {s s' : St} (h : OL c k el lo s.t s.next v l) (w : Oth X s s') (hX : X el = false) : OL c k el lo s'.t s'.next v l := by
  obtain ⟨h1,h2⟩ := h
  rcases h2 with h | ⟨N,h2,h3,h4⟩
  · exact ⟨h1,.inl h⟩
  · exact ⟨h1,.inr ⟨N,h2,w _ _ _ _ h3 hX,h4⟩⟩
def Bd (bT uT lo : Nat) (t : Tree) (n : Nat) (N : Nat) (x : List UInt8) : Prop :=
  lo ≤ N ∧ ∃ p v,Row t n N [p,v] bT 0 ∧ (p = .pointer none ∨ p = .pointer (some ⟨N,0,none⟩)) ∧ OL byteCell 1 uT lo t n v x ∧ (x = [] → v = .slice none 0 0)
theorem Oth.weak {X Y : TypeId → Bool} {s s' : St} (h : Oth X s s') (hw : ∀ e,Y e = false → X e = false) : Oth Y s s' := fun M vs e hi r hx => h M vs e hi r (hw e hx)
section
variable {T : Tab} {fr : Fr} {s : St} {ops : Array Oper} {bef : List Nat} {i : Nat} {o : Oper} {os : List Oper} {ds : List (Nat × Did)} {Q : Fr → St → Prop}
theorem EndsDraw.still0 {v : Value} {fr1 : Fr} (hw : Region.wanted o (yieldedL ops fr.tmps) = true) (hk : kindOf o = 0) (hc : noCall o.op = true)
    (hp : evPlain T fr.eval o.op ⟨.leaf,s.next,[]⟩ = some (v,⟨.leaf,s.next,[]⟩)) (hf : fr.put o.dst v = fr1) (h : EndsDraw T ops bef (i + 1) os ((i,⟨0,blkOf fr o,s.next,s.next,[],againOf T fr o s.next v,.leaf⟩) :: ds) fr1 s Q) : EndsDraw T ops bef i (o :: os) ds fr s Q := by
  obtain ⟨k,fr',s',h1,h2⟩ := h
  refine ⟨k,fr',s',?_,h2⟩
  unfold evDraw
  rw [if_pos hw]
  have e : evOp T (evCode T k) fr o = evPlain T fr.eval o.op := by
    unfold evOp
    split
    · rename_i f args ts hop; exact absurd hop (noCall_ne hc _ _ _)
    · rfl
  have hok : drawOk (bef.getD i 0) ds .leaf ⟨0,blkOf fr o,s.next,s.next,[],againOf T fr o s.next v,.leaf⟩ = true := by
    generalize bef.getD i 0 = bits
    have h3 : (ds.all fun p => bits.testBit p.1 || okPair p.2 ⟨0,blkOf fr o,s.next,s.next,[],againOf T fr o s.next v,.leaf⟩ || okLate p.2 ⟨0,blkOf fr o,s.next,s.next,[],againOf T fr o s.next v,.leaf⟩) = true := List.all_eq_true.2 fun p hp => by simp [okPair,okOne]
    unfold drawOk
    rw [h3]; simp
  have e1 : drawOne T (evCode T k) (bef.getD i 0) ds fr o s = some ((v,⟨0,blkOf fr o,s.next,s.next,[],againOf T fr o s.next v,.leaf⟩),s) := by
    unfold drawOne
    have hv : viewOf 0 (blkOf fr o) (hiddenOf (bef.getD i 0) ds) s.t = .leaf := rfl
    simp only [hv,e,hp,hk,outer,List.filter_nil,hok,if_true,Nat.sub_self,giveRange,giveBack,List.nil_append]
  simp only [bnd,e1,hf]; exact h1
theorem EndsDraw.write0 {v : Value} {fr1 : Fr} (hw : Region.wanted o (yieldedL ops fr.tmps) = true) (hk : kindOf o = 3) (hc : noCall o.op = true) (hb : blkOf fr o = 0) (hh : hiddenOf (bef.getD i 0) ds = []) (hpairs : (ds.all fun p => (bef.getD i 0).testBit p.1) = true)
    (hp : evPlain T fr.eval o.op ⟨s.t,s.next,[]⟩ = some (v,⟨s.t,s.next,[]⟩)) (hf : fr.put o.dst v = fr1) (h : EndsDraw T ops bef (i + 1) os ((i,⟨3,0,s.next,s.next,[],againOf T fr o s.next v,s.t⟩) :: ds) fr1 s Q) : EndsDraw T ops bef i (o :: os) ds fr s Q := by
  obtain ⟨k,fr',s',h1,h2⟩ := h
  refine ⟨k,fr',s',?_,h2⟩
  unfold evDraw
  rw [if_pos hw]
  have e : evOp T (evCode T k) fr o = evPlain T fr.eval o.op := by
    unfold evOp
    split
    · rename_i f args ts hop; exact absurd hop (noCall_ne hc _ _ _)
    · rfl
  have hv : viewOf 3 0 [] s.t = s.t := rfl
  have hok : drawOk (bef.getD i 0) ds s.t ⟨3,0,s.next,s.next,[],againOf T fr o s.next v,s.t⟩ = true := by
    revert hpairs
    generalize bef.getD i 0 = bits
    intro hpairs
    have h3 : (ds.all fun p => bits.testBit p.1 || okPair p.2 ⟨3,0,s.next,s.next,[],againOf T fr o s.next v,s.t⟩ || okLate p.2 ⟨3,0,s.next,s.next,[],againOf T fr o s.next v,s.t⟩) = true := List.all_eq_true.2 fun p hp => by
      have := List.all_eq_true.1 hpairs p hp; rw [this]; rfl
    unfold drawOk
    rw [h3]; simp
  have e1 : drawOne T (evCode T k) (bef.getD i 0) ds fr o s = some ((v,⟨3,0,s.next,s.next,[],againOf T fr o s.next v,s.t⟩),s) := by
    unfold drawOne
    simp only [hk,hb,hh,hv,e,hp,outer,List.filter_nil,hok,if_true,Nat.sub_self,giveRange,giveBack,List.nil_append]
  simp only [bnd,e1,hf]; exact h1
theorem EndsDraw.write {v : Value} {fr1 : Fr} {N : Nat} {b : Blk} (hw : Region.wanted o (yieldedL ops fr.tmps) = true) (hk : kindOf o = 3) (hc : noCall o.op = true) (hb : blkOf fr o = 0) (hh : hiddenOf (bef.getD i 0) ds = []) (hpairs : (ds.all fun p => (bef.getD i 0).testBit p.1) = true)
    (hp : evPlain T fr.eval o.op ⟨s.t,s.next,[]⟩ = some (v,⟨s.t.set N (some b),s.next,[N]⟩)) (hN : N < s.next) (hs : (s.t.get N).isSome = true) (hf : fr.put o.dst v = fr1)
    (h : ∀ s1 : St,s1.next = s.next → s1.mods = N :: s.mods → s1.t.get N = some b → (∀ M,M ≠ N → s1.t.get M = s.t.get M) → EndsDraw T ops bef (i + 1) os ((i,⟨3,0,s.next,s.next,[N],againOf T fr o s.next v,s.t.set N (some b)⟩) :: ds) fr1 s1 Q) : EndsDraw T ops bef i (o :: os) ds fr s Q := by
  have ho : outer s.next ⟨s.t.set N (some b),s.next,[N]⟩ = [N] := by
    unfold outer; simp [hN]
  obtain ⟨k,fr',s',h1,h2⟩ := h ⟨giveBack [N] (s.t.set N (some b)) s.t,s.next,N :: s.mods⟩ rfl rfl (by
      show (s.t.set N ((s.t.set N (some b)).get N)).get N = _
      rw [Tree.get_set_same,Tree.get_set_same]) (fun M hM => by
      show (s.t.set N ((s.t.set N (some b)).get N)).get M = _
      rw [Tree.get_set_ne _ _ hM])
  refine ⟨k,fr',s',?_,h2⟩
  unfold evDraw
  rw [if_pos hw]
  have e : evOp T (evCode T k) fr o = evPlain T fr.eval o.op := by
    unfold evOp
    split
    · rename_i f args ts hop; exact absurd hop (noCall_ne hc _ _ _)
    · rfl
  have hv : viewOf 3 0 [] s.t = s.t := rfl
  have hok : drawOk (bef.getD i 0) ds s.t ⟨3,0,s.next,s.next,[N],againOf T fr o s.next v,s.t.set N (some b)⟩ = true := by
    revert hpairs
    generalize bef.getD i 0 = bits
    intro hpairs
    have h3 : (ds.all fun p => bits.testBit p.1 || okPair p.2 ⟨3,0,s.next,s.next,[N],againOf T fr o s.next v,s.t.set N (some b)⟩ || okLate p.2 ⟨3,0,s.next,s.next,[N],againOf T fr o s.next v,s.t.set N (some b)⟩) = true := List.all_eq_true.2 fun p hp => by
      have := List.all_eq_true.1 hpairs p hp; rw [this]; rfl
    unfold drawOk
    rw [h3]; simp [hN,hs]
  have e1 : drawOne T (evCode T k) (bef.getD i 0) ds fr o s = some ((v,⟨3,0,s.next,s.next,[N],againOf T fr o s.next v,s.t.set N (some b)⟩),⟨giveBack [N] (s.t.set N (some b)) s.t,s.next,N :: s.mods⟩) := by
    unfold drawOne
    simp only [hk,hb,hh,hv,e,hp,ho,hok,if_true,Nat.sub_self,giveRange,List.cons_append,List.nil_append]
  simp only [bnd,e1,hf]; exact h1
end
end Go.Ev

/-
  EV: the rules of a printed walk, fifth part: drawn regions that lay blocks and write.
-/
namespace Go.Ev
open Go Go.RowKit
section
variable {T : Tab} {fr : Fr} {s : St} {ops : Array Oper} {bef : List Nat} {i : Nat} {o : Oper} {os : List Oper} {ds : List (Nat × Did)} {Q : Fr → St → Prop}
end
def EndsE (T : Tab) (ops : Array Oper) (bef : List Nat) (i : Nat) (os : List Oper) (L : List (Nat × Nat × Nat)) (fr : Fr) (s : St) (Q : Fr → St → Prop) : Prop :=
  ∀ ds,Calm ds → (∀ bits p,p ∈ hiddenOf bits ds → p ∈ hidL bits L) → (∀ p ∈ ds,p.1 < i) → EndsDraw T ops bef i os ds fr s Q
def EndsF (T : Tab) (ops : Array Oper) (bef : List Nat) (i : Nat) (os : List Oper) (fr : Fr) (s : St) (Q : Fr → St → Prop) : Prop := ∀ ds,EndsDraw T ops bef i os ds fr s Q
section
variable {T : Tab} {cx : Ctx} {fr : Fr} {s s0 : St} {ops : Array Oper} {bef : List Nat} {i : Nat} {o : Oper} {os : List Oper} {L : List (Nat × Nat × Nat)} {Q : Fr → St → Prop}
theorem ahead {ds : List (Nat × Did)} {d : Did} (h : ∀ p ∈ ds,p.1 < i) : ∀ p ∈ (i,d) :: ds,p.1 < i + 1 := fun p hp => by
  rcases List.mem_cons.1 hp with rfl | hp
  · exact Nat.lt_succ_self _
  · exact Nat.lt_succ_of_lt (h p hp)
theorem E.nil (h : Q fr s) : EndsE T ops bef i [] L fr s Q := fun _ _ _ _ => EndsDraw.nil h
theorem E.skip {fr1 : Fr} (hw : Region.wanted o (yieldedL ops fr.tmps) = false) (hf : fr.put o.dst undef = fr1) (h : EndsE T ops bef (i + 1) os L fr1 s Q) : EndsE T ops bef i (o :: os) L fr s Q := fun ds h1 h2 h3 => EndsDraw.skip1 hw hf (h ds h1 h2 fun p hp => Nat.lt_succ_of_lt (h3 p hp))
theorem E.op {v : Value} {fr1 : Fr} (hw : Region.wanted o (yieldedL ops fr.tmps) = true) (hp : evPlain T fr.eval o.op ⟨.leaf,s.next,[]⟩ = some (v,⟨.leaf,s.next,[]⟩)) (hc : noCall o.op = true) (hk : kindOf o = 0) (hf : fr.put o.dst v = fr1)
    (h : EndsE T ops bef (i + 1) os L fr1 s Q) : EndsE T ops bef i (o :: os) L fr s Q := fun ds h1 h2 h3 => EndsDraw.still h1 hw hk (noCall_ne hc) hp hf (h _ (h1.cons rfl) (hid_same h2) (ahead h3))
theorem OL.same {α : Type} {c : α → List Value} {k : Nat} {el : TypeId} {lo : Nat} {v : Value} {l : List α} {t t' : Tree} {n n' : Nat} (h : OL c k el lo t n v l) (hn : n ≤ n') (hg : ∀ M,M < n → t'.get M = t.get M) : OL c k el lo t' n' v l := by
  obtain ⟨h1,h2⟩ := h
  rcases h2 with h | ⟨N,h2,h3,h4⟩
  · exact ⟨h1,.inl h⟩
  · exact ⟨h1,.inr ⟨N,h2,⟨(hg N h3.lt).trans h3.get,Nat.lt_of_lt_of_le h3.lt hn⟩,h4⟩⟩
theorem Own.same {z s s2 : St} (h : Own z s) (hn : s2.next = s.next) (hm : s2.mods = s.mods) (hg : ∀ M,M < s.next → s2.t.get M = s.t.get M) : Own z s2 :=
  ⟨hn ▸ h.next,by obtain ⟨q,h1,h2⟩ := h.mods; exact ⟨q,hm.trans h1,fun N hN => hn ▸ h2 N hN⟩,fun N hN => (hg N (Nat.lt_of_lt_of_le hN h.next)).trans (h.old N hN)⟩
theorem OL.struck {α : Type} {c : α → List Value} {k : Nat} {el : TypeId} {lo : Nat} {v : Value} {l : List α} {t : Tree} {n : Nat} (h : OL c k el lo t n v l) {M : Nat} (hM : Struck v M) : M < n ∧ lo ≤ M ∧ (t.get M).isSome = true := by
  obtain ⟨len,cap,e,hcap⟩ := hM
  obtain ⟨_,h2⟩ := h
  rcases h2 with ⟨_,a,h,_⟩ | ⟨N,h,hr,hN⟩
  · rw [e] at h; cases h; exact absurd hcap (by decide)
  · rw [e] at h; cases h; exact ⟨hr.lt,hN,by rw [hr.get]; rfl⟩
theorem F.nil (h : Q fr s) : EndsF T ops bef i [] fr s Q := fun _ => EndsDraw.nil h
theorem F.op {v : Value} {fr1 : Fr} (hw : Region.wanted o (yieldedL ops fr.tmps) = true) (hp : evPlain T fr.eval o.op ⟨.leaf,s.next,[]⟩ = some (v,⟨.leaf,s.next,[]⟩)) (hc : noCall o.op = true) (hk : kindOf o = 0) (hf : fr.put o.dst v = fr1)
    (h : EndsF T ops bef (i + 1) os fr1 s Q) : EndsF T ops bef i (o :: os) fr s Q := fun _ => EndsDraw.still0 hw hk hc hp hf (h _)
end
end Go.Ev
