/-
  SX, PART Q: regions that draw their order.
-/
import Derived.Test.YtelpkdjibjddlaaEvSxO
set_option linter.unusedSimpArgs false
set_option linter.unusedVariables false
namespace Go.Sx
open Go Go.Ev Go.RowKit
variable {U : Nat → Type} {T : Tab} {S : Sys U}
variable {dq : List Nat}
theorem EndsDraw.one {fr : Fr} {s : St} {ops : Array Oper} {bef : List Nat} {i : Nat} {o : Oper} {os : List Oper} {ds : List (Nat × Did)} {Q : Fr → St → Prop} {k : Nat} {v : Value} {dd : Did} {s2 : St} (hw : Region.wanted o (yieldedL ops fr.tmps) = true) (h0 : drawOne T (evCode T k) (bef.getD i 0) ds fr o s = some ((v,dd),s2)) (h : EndsDraw T ops bef (i + 1) os ((i,dd) :: ds) (fr.put o.dst v) s2 Q) : EndsDraw T ops bef i (o :: os) ds fr s Q := by
  obtain ⟨k2,fr',s',h3,h4⟩ := h
  refine ⟨max k k2,fr',s',?_,h4⟩
  unfold evDraw
  rw [if_pos hw]
  have e1 := Mle.drawOne (evCode_le (Nat.le_max_left k k2)) (bef.getD i 0) ds fr o _ _ h0
  simp only [bnd,e1]
  exact Mle.evDraw (evCode_le (Nat.le_max_right k k2)) ops bef os _ _ _ _ _ h3
theorem kindOf_eq (o : Oper) (h : noCall o.op = true) (ho : kindO o.op ≠ 3) : kindOf o = kindO o.op := by
  obtain ⟨dst,op,ty,pos,aft,g⟩ := o
  cases op with
  | call c =>
    obtain ⟨f,a,ts⟩ := c
    cases f with
    | builtin b => cases b <;> first | rfl | exact absurd rfl ho
    | value f => cases h
    | invoke r m => exact absurd rfl ho
  | _ => first | rfl | exact absurd rfl ho
structure DrOk (X : Env U) (r : Dr) (p : Nat × Did) : Prop where
  j : r.j = p.1
  k : p.2.kind = r.k
  lay : r.lay = false → p.2.lo = p.2.hi
  h1 : r.h1 ≤ X.ns.length
  lt : ∀ (e N : Nat),e < r.h1 → X.ns[e]? = some (some N) → N < p.2.lo
  w : r.w = false → p.2.mods = []
  fz : r.k = 2 → r.fz = true → ¬ X.fb p.2.blk ∧ p.2.blk < X.n
def DsOk (X : Env U) : List Dr → List (Nat × Did) → Prop
  | [],[] => True
  | r :: D,p :: ds => DrOk X r p ∧ DsOk X D ds
  | _,_ => False
theorem DrOk.later {X X' : Env U} (h : Later X X') (hp : X.ns <+: X'.ns) {r : Dr} {p : Nat × Did} (d : DrOk X r p) : DrOk X' r p := by
  obtain ⟨q,hq⟩ := hp
  refine ⟨d.j,d.k,d.lay,by rw [← hq,List.length_append]; have := d.h1; omega,fun e N he hN => d.lt e N he ?_,d.w,fun h2 h3 => ⟨(h.mem _ (d.fz h2 h3).2 (d.fz h2 h3).1).2,Nat.lt_of_lt_of_le (d.fz h2 h3).2 h.n⟩⟩
  rw [← hq,List.getElem?_append_left (Nat.lt_of_lt_of_le he d.h1)] at hN; exact hN
theorem DsOk.later {X X' : Env U} (h : Later X X') (hp : X.ns <+: X'.ns) : ∀ {D : List Dr} {ds : List (Nat × Did)},DsOk X D ds → DsOk X' D ds
  | [],[],_ => trivial
  | r :: D,p :: ds,d => ⟨d.1.later h hp,DsOk.later h hp d.2⟩
  | [],_ :: _,d => d.elim
  | _ :: _,[],d => d.elim
theorem DsOk.mem {X : Env U} {R : Dr → Bool} : ∀ {D : List Dr} {ds : List (Nat × Did)},DsOk X D ds → allD R D = true → ∀ p ∈ ds,∃ r,DrOk X r p ∧ R r = true
  | [],[],_,_,p,hp => by cases hp
  | r :: D,q :: ds,d,h,p,hp => by
    obtain ⟨h1,h2⟩ := and_tt h
    rcases List.mem_cons.1 hp with rfl | hp
    · exact ⟨r,d.1,h1⟩
    · exact DsOk.mem d.2 h2 p hp
  | [],_ :: _,d,_,_,_ => d.elim
  | _ :: _,[],d,_,_,_ => d.elim
theorem hidden_mem {bits : Nat} : ∀ {ds : List (Nat × Did)} {q : Nat × Nat},q ∈ hiddenOf bits ds → ∃ p ∈ ds,bits.testBit p.1 = false ∧ p.2.lo ≠ p.2.hi ∧ q = (p.2.lo,p.2.hi)
  | [],q,h => by cases h
  | (j,d) :: ds,q,h => by
    unfold hiddenOf at h
    split at h
    · obtain ⟨p,h1,h2⟩ := hidden_mem h; exact ⟨p,List.mem_cons_of_mem _ h1,h2⟩
    · rename_i hc
      rcases List.mem_cons.1 h with rfl | h
      · refine ⟨(j,d),List.mem_cons_self,?_,?_,rfl⟩
        · cases hb : bits.testBit j with
          | false => rfl
          | true => simp [hb] at hc
        · intro e; simp at hc; exact hc.2 e
      · obtain ⟨p,h1,h2⟩ := hidden_mem h; exact ⟨p,List.mem_cons_of_mem _ h1,h2⟩
theorem live_some {X : Env U} (hr : HRel S X) {N : Nat} (h : X.liveN N) : (X.t.get N).isSome = true := by
  obtain ⟨i,c,h1,h2,h3⟩ := h
  have := hr.ok i c _ h2 h1
  cases c with
  | dead => cases h3
  | loop r st pd => obtain ⟨M,e1,e2,_⟩ := this; cases e1; rw [e2]; rfl
  | siter x p => obtain ⟨M,e1,e2,_⟩ := this; cases e1; rw [e2]; rfl
  | cells fz e vs => obtain ⟨M,ws,e1,e2,_⟩ := this; cases e1; rw [e2]; rfl
  | list fz ex e k l => obtain ⟨_,ws,cs,e2,_⟩ := this; rw [e2]; rfl
theorem Step.same {X Y : Env U} {s s1 s2 : St} {d : List Nat} (hr : HRel S X) (g : Step S X ⟨s.t,s.next,[]⟩ ⟨X.wb,Y.ns,Y.H,s1.t,s1.next⟩ s1 d) (h1 : s2.next = s1.next) (h2 : s2.mods = s1.mods ++ s.mods) (h3 : ∀ M,M < s1.next → s2.t.get M = s1.t.get M) :
    Step S X s ⟨X.wb,Y.ns,Y.H,s2.t,s2.next⟩ s2 d ∧ Later ⟨X.wb,Y.ns,Y.H,s1.t,s1.next⟩ ⟨X.wb,Y.ns,Y.H,s2.t,s2.next⟩ := by
  have hL : Later ⟨X.wb,Y.ns,Y.H,s1.t,s1.next⟩ ⟨X.wb,Y.ns,Y.H,s2.t,s2.next⟩ := ⟨fun _ _ h => h,fun i c h => ⟨c,h,Same.refl c⟩,fun N hN hf => ⟨h3 N hN,hf⟩,by show s1.next ≤ s2.next; omega⟩
  have hm : s1.mods = d := by rw [g.mods,List.append_nil]
  refine ⟨⟨rfl,rfl,rfl,⟨g.rel.len,fun i c N k1 k2 => (g.rel.ok i c N k1 k2).later hL fun M hM => h3 M ?_,g.rel.inj,fun i N k => ?_,fun N hN => ?_⟩,g.later.trans hL,by rw [h1]; exact g.next,g.live,by rw [h2,hm],g.dl,fun N hN hne => ?_,g.ns⟩,hL⟩
  · subst hM; exact (g.rel.lt i M k2).1
  · have := g.rel.lt i N k; exact ⟨by show N < s2.next; rw [h1]; exact this.1,this.2⟩
  · show N < s2.next; rw [h1]; exact g.rel.wbl N hN
  · rw [h3 N (Nat.lt_of_lt_of_le hN g.next)]; exact g.old N hN hne
theorem drawOk_of {bits : Nat} {ds : List (Nat × Did)} {view : Tree} {d : Did} (h1 : d.kind = 3 ∨ d.mods = []) (h2 : ∀ N ∈ d.mods,N < d.lo ∧ (view.get N).isSome = true) (hk4 : d.kind ≠ 4) (h3 : d.kind = 2 → ∀ q ∈ hiddenOf bits ds,d.blk < q.1 ∨ q.2 ≤ d.blk) (h4 : ∀ p ∈ ds,bits.testBit p.1 = true ∨ okPair p.2 d = true) : drawOk bits ds view d = true := by
  unfold drawOk
  have e4 : (ds.all fun p => bits.testBit p.1 || okPair p.2 d || okLate p.2 d) = true := List.all_eq_true.2 fun p hp => by
    rcases h4 p hp with h | h
    · rw [h]; rfl
    · rw [h,Bool.or_true]; rfl
  have e2 : (d.mods.all fun N => decide (N < d.lo) && (view.get N).isSome) = true := List.all_eq_true.2 fun N hN => by simp [(h2 N hN).1,(h2 N hN).2]
  have e1 : (d.kind == 3 || d.mods.isEmpty) = true := by
    rcases h1 with h | h
    · rw [h]; rfl
    · rw [h]; simp
  have e3 : ((d.kind != 2 && d.kind != 4) || (hiddenOf bits ds).all fun q => decide (d.blk < q.1) || decide (q.2 ≤ d.blk)) = true := by
    by_cases hk : d.kind = 2
    · rw [Bool.or_eq_true]; right
      exact List.all_eq_true.2 fun q hq => by have := h3 hk q hq; simpa using this
    · simp [hk,hk4]
  rw [e1,e2,e3,e4]; rfl
theorem okPair_still {a d : Did} (hk : d.kind ≤ 1) (hm : d.mods = []) : okPair a d = true := by
  unfold okPair okOne
  simp [hk,hm]
theorem draw_step {C : FuncId → Option (Spec U)} (ok : SysOk T S) (hsz : ∀ e,S.size e < END) {R : Env U → Prop} (hC : CallsOk T S C R) {nt i bits : Nat} {B : Nat → Bool} (hB : ∀ j,B j = true → bits.testBit j = true) {X : Env U} {F : Frm U} {fr : Fr} {s : St} {D : List Dr} {ds : List (Nat × Did)} (hRX : R X) (hR : Rl S nt dq X F fr s) (hD : DsOk X D ds) {o : Oper} {K : SV U → Hp U → Prop} (hok : okD C F X.H B D o.op = true) (h : step S C F X.H o.op K) :
    ∃ k v dd s2,drawOne T (evCode T k) bits ds fr o s = some ((v,dd),s2) ∧ ∃ sv X2 d,K sv X2.H ∧ Den S X2 sv v ∧ Step S X s X2 s2 d ∧ DrOk X2 (mkD C F X.H i o.op) (i,dd) := by
  have h1 := hR.t.symm
  have h2 := hR.n.symm
  have hlen : lenH X.H = X.ns.length := by rw [lenH_eq,hR.rel.len]
  have hltn : ∀ (e N : Nat),e < lenH X.H → X.ns[e]? = some (some N) → N < s.next := fun e N _ hN => by rw [h2]; exact (hR.rel.lt e N hN).1
  have kcall : kindO o.op ≠ 3 → noCall o.op = true := by
    intro h
    cases ho : o.op with
    | call c =>
      obtain ⟨f,a,ts⟩ := c
      cases f with
      | value f => rw [ho] at h; exact absurd rfl h
      | _ => rfl
    | _ => rfl
  have hkind : ∀ q,kindO o.op = q → q ≠ 3 → kindOf o = q := fun q hq h3 => by rw [kindOf_eq o (kcall (by rw [hq]; exact h3)) (by rw [hq]; exact h3),hq]
  unfold step at h
  split at h
  · -- nothing with memory
    rename_i hk
    have hc := kcall (by rw [hk]; decide)
    obtain ⟨sv,v,k1,k2,k3⟩ := pure_sound ok hR.rel hR.frm h
    refine ⟨0,v,⟨0,blkOf fr o,s.next,s.next,[],againOf T fr o s.next v,.leaf⟩,s,?_,sv,X,[],k1,k2,Step.refl hR.rel h1 h2,?_⟩
    · unfold drawOne
      rw [evOp_plain hc,hkind 0 hk (by decide)]
      have hv : viewOf 0 (blkOf fr o) (hiddenOf bits ds) s.t = .leaf := rfl
      have hdo := drawOk_of (bits := bits) (ds := ds) (view := .leaf) (d := ⟨0,blkOf fr o,s.next,s.next,[],againOf T fr o s.next v,.leaf⟩) (.inr rfl) (fun _ h => by cases h) (by simp) (fun h => by cases h) (fun p hp => .inr (okPair_still (Nat.zero_le _) rfl))
      simp only [hv,k3,outer,List.filter_nil,hdo,if_true,Nat.sub_self,giveRange,giveBack,List.nil_append]
    · have e : mkD C F X.H i o.op = ⟨i,0,false,false,false,lenH X.H⟩ := by simp only [mkD,hk]
      rw [e]
      exact ⟨rfl,rfl,fun _ => rfl,by simp only; omega,hltn,fun _ => rfl,fun h => by cases h⟩
  · -- a new block
    rename_i hk
    have hc := kcall (by rw [hk]; decide)
    obtain ⟨sv,H',v,vs,e,k1,k2,k3⟩ := lay_sound ok hR.rel hR.frm h
    have hb : blkOf fr o = 0 := by unfold blkOf; cases ho : o.op <;> first | rfl | (rw [ho] at hk; cases hk)
    have hrun := k3 ⟨.leaf,s.next,[]⟩ h2
    obtain ⟨sv',H2,v',s',ns',d,b1,b2,b3,b4,_⟩ := Laid.big (w0 := true) (K := fun a b => a = sv ∧ b = H') (run := fun s => some (v,{ s with t := s.t.set s.next (some (.cells vs e 0)),next := s.next + 1 })) ⟨rfl,rfl⟩ k2 (fun _ _ _ => rfl) ⟨s.t,s.next,[]⟩ h1 h2
    obtain ⟨rfl,rfl⟩ := b1
    cases b2
    have hgr : ∀ M,M < s.next + 1 → (giveRange 1 s.next (Tree.leaf.set s.next (some (.cells vs e 0))) s.t).get M = (s.t.set s.next (some (.cells vs e 0))).get M := by
      intro M hM
      rw [giveRange_get]
      by_cases hx : s.next ≤ M ∧ M < s.next + 1
      · have : M = s.next := by omega
        subst this
        rw [if_pos hx,Tree.get_set_same,Tree.get_set_same]
      · rw [if_neg hx,Tree.get_set_ne _ _ (by omega)]
    obtain ⟨g1,g2⟩ := Step.same (Y := ⟨X.wb,X.ns ++ ns',H2,s.t,s.next⟩) (s2 := ⟨giveRange 1 s.next (Tree.leaf.set s.next (some (.cells vs e 0))) s.t,s.next + 1,s.mods⟩) hR.rel b4 rfl rfl hgr
    refine ⟨0,v,⟨1,0,s.next,s.next + 1,[],againOf T fr o s.next v,Tree.leaf.set s.next (some (.cells vs e 0))⟩,⟨giveRange 1 s.next (Tree.leaf.set s.next (some (.cells vs e 0))) s.t,s.next + 1,s.mods⟩,?_,sv',_,d,k1,b3.later g2,g1,?_⟩
    · unfold drawOne
      rw [evOp_plain hc,hkind 1 hk (by decide),hb]
      have hv : viewOf 1 0 (hiddenOf bits ds) s.t = .leaf := rfl
      have hdo := drawOk_of (bits := bits) (ds := ds) (view := .leaf) (d := ⟨1,0,s.next,s.next + 1,[],againOf T fr o s.next v,Tree.leaf.set s.next (some (.cells vs e 0))⟩) (.inr rfl) (fun _ h => by cases h) (by simp) (fun h => by cases h) (fun p hp => .inr (okPair_still (Nat.le_refl _) rfl))
      simp only [hv,hrun,outer,List.filter_nil,hdo,if_true,giveBack,List.nil_append,Nat.add_sub_cancel_left]
    · have e : mkD C F X.H i o.op = ⟨i,1,true,false,false,lenH X.H⟩ := by simp only [mkD,hk]
      rw [e]
      refine DrOk.later (X := X) g1.later g1.ns ⟨rfl,rfl,(fun h => by cases h),by simp only; omega,hltn,fun _ => rfl,(fun h => by cases h)⟩
  · -- a load
    rename_i hk
    have hc := kcall (by rw [hk]; decide)
    obtain ⟨sv,v,t,a,N,p,k1,k2,ho,ha,hN,hwhere,k5⟩ := load_sound ok hR.rel hR.frm h
    have hb : blkOf fr o = N := by unfold blkOf; rw [ho]; simp only [ha]
    have hrun := k5 ⟨Tree.leaf.set N (s.t.get N),s.next,[]⟩ (by rw [← h1]; exact Tree.get_set_same _ _ _)
    have hokr : (∀ p ∈ ds,bits.testBit p.1 = true ∨ p.2.mods = []) ∧ (∀ q ∈ hiddenOf bits ds,N < q.1 ∨ q.2 ≤ N) ∧ ((mkD C F X.H i o.op).fz = true → ¬ X.fb N) := by
      unfold okD at hok
      rw [hk] at hok
      simp only at hok
      have hmk : mkD C F X.H i o.op = ⟨i,2,false,false,isN (loadAt F o.op),lenH X.H⟩ := by simp only [mkD,hk]
      rw [hmk]
      have entry : ∀ e,loadAt F o.op = some e → X.ns[e]? = some (some N) → _ := fun e he hns => by
        rw [he] at hok
        simp only at hok
        refine (⟨fun q hq => ?_,fun q hq => ?_,fun h => by rw [he] at h; cases h⟩ : (∀ p ∈ ds,bits.testBit p.1 = true ∨ p.2.mods = []) ∧ (∀ q ∈ hiddenOf bits ds,N < q.1 ∨ q.2 ≤ N) ∧ (isN (loadAt F o.op) = true → ¬ X.fb N))
        · obtain ⟨r,r1,r2⟩ := hD.mem hok q hq
          rw [Bool.or_eq_true] at r2
          rcases r2 with r2 | r2
          · obtain ⟨r3,_⟩ := and_tt r2
            exact .inr (r1.w (by cases h : r.w <;> simp_all))
          · exact .inl (by rw [← r1.j]; exact hB _ r2)
        · obtain ⟨p,p1,p2,p3,rfl⟩ := hidden_mem hq
          obtain ⟨r,r1,r2⟩ := hD.mem hok p p1
          rw [Bool.or_eq_true] at r2
          rcases r2 with r2 | r2
          · obtain ⟨_,r3⟩ := and_tt r2
            rw [Bool.or_eq_true] at r3
            rcases r3 with r3 | r3
            · exact absurd (r1.lay (by cases h : r.lay <;> simp_all)) p3
            · exact .inl (r1.lt e N (Nat.le_of_ble_eq_true r3) hns)
          · have := hB _ r2; rw [r1.j,p2] at this; cases this
      rcases hwhere with ⟨e,he,hns⟩ | ⟨e,j,o',he,hns⟩ | ⟨c,x,o',he⟩
      · exact entry e (by rw [ho]; unfold loadAt; simp only [he]) hns
      · exact entry e (by rw [ho]; unfold loadAt; simp only [he]) hns
      · have hl : loadAt F o.op = none := by rw [ho]; unfold loadAt; simp only [he]
        rw [hl] at hok
        simp only at hok
        refine ⟨fun q hq => ?_,fun q hq => ?_,fun _ => ?_⟩
        · obtain ⟨r,r1,r2⟩ := hD.mem hok q hq
          rw [Bool.or_eq_true] at r2
          rcases r2 with r2 | r2
          · obtain ⟨r3,_⟩ := and_tt r2
            exact .inr (r1.w (by cases h : r.w <;> simp_all))
          · exact .inl (by rw [← r1.j]; exact hB _ r2)
        · obtain ⟨p,p1,p2,p3,rfl⟩ := hidden_mem hq
          obtain ⟨r,r1,r2⟩ := hD.mem hok p p1
          rw [Bool.or_eq_true] at r2
          rcases r2 with r2 | r2
          · obtain ⟨_,r3⟩ := and_tt r2
            exact absurd (r1.lay (by cases h : r.lay <;> simp_all)) p3
          · have := hB _ r2; rw [r1.j,p2] at this; cases this
        · have hd := evo_den hR.frm a
          rw [he] at hd
          obtain ⟨M,b,ws,e,hi,cs,hw,_,_,q3,_⟩ := rp_inv hd
          rw [hw] at ha
          cases ha
          exact q3
    obtain ⟨r1,r2,r3⟩ := hokr
    refine ⟨0,v,⟨2,N,s.next,s.next,[],againOf T fr o s.next v,Tree.leaf.set N (s.t.get N)⟩,s,?_,sv,X,[],k1,k2,Step.refl hR.rel h1 h2,?_⟩
    · unfold drawOne
      rw [evOp_plain hc,hkind 2 hk (by decide),hb]
      have hv : viewOf 2 N (hiddenOf bits ds) s.t = Tree.leaf.set N (s.t.get N) := rfl
      have hdo := drawOk_of (bits := bits) (ds := ds) (view := Tree.leaf.set N (s.t.get N)) (d := ⟨2,N,s.next,s.next,[],againOf T fr o s.next v,Tree.leaf.set N (s.t.get N)⟩) (.inr rfl) (fun _ h => by cases h) (by simp) (fun _ => r2) (fun p hp => by
        rcases r1 p hp with h | h
        · exact .inl h
        · exact .inr (by unfold okPair okOne; simp [h]))
      simp only [hv,hrun,outer,List.filter_nil,hdo,if_true,Nat.sub_self,giveRange,giveBack,List.nil_append]
    · have e : mkD C F X.H i o.op = ⟨i,2,false,false,isN (loadAt F o.op),lenH X.H⟩ := by simp only [mkD,hk]
      rw [e] at r3 ⊢
      exact ⟨rfl,rfl,fun _ => rfl,by simp only; omega,hltn,fun _ => rfl,fun _ hf => ⟨r3 hf,hN⟩⟩
  · -- all else
    rename_i hk0 hk1 hk2
    have hstep : step S C F X.H o.op K := by unfold step; split <;> first | exact absurd (by assumption) hk0 | exact absurd (by assumption) hk1 | exact absurd (by assumption) hk2 | exact h
    have hk3 : kindOf o = 3 := by
      obtain ⟨dst,op,ty,pos,aft,g⟩ := o
      cases op with
      | call c =>
        obtain ⟨f,a,ts⟩ := c
        cases f with
        | builtin b => cases b <;> first | rfl | exact absurd rfl hk0 | exact h.elim
        | _ => rfl
      | _ => first | rfl | exact absurd rfl hk0 | exact absurd rfl hk1 | exact absurd rfl hk2 | exact h.elim
    have hb : blkOf fr o = 0 := by
      unfold blkOf
      cases ho : o.op <;> first | rfl | (rw [ho] at hk2; exact absurd rfl hk2) | (rw [ho] at hstep; exact hstep.elim)
    have hR0 : Rl S nt dq X F fr ⟨s.t,s.next,[]⟩ := ⟨hR.t,hR.n,hR.rel,hR.frm,hR.len,hR.dfs,hR.dqn,hR.dqs⟩
    have hy : isY F o.op = false := by
      unfold okD at hok
      split at hok
      · rename_i h; exact absurd h hk0
      · rename_i h; exact absurd h hk1
      · rename_i h; exact absurd h hk2
      · cases h : isY F o.op with
        | false => rfl
        | true => rw [h] at hok; cases hok
    obtain ⟨k,v,s1,e,sv,H',ns',d,k1,k2,k3,k4⟩ := step_sound ok hsz hC hRX hR0 hy hstep
    have hm : s1.mods = d := by rw [k3.mods,List.append_nil]
    have hW : (kindO o.op != 1 && writes C F X.H o.op) = writes C F X.H o.op := by
      have : (kindO o.op != 1) = true := by simpa using hk1
      rw [this]; rfl
    rw [hW] at k4
    have hokr : (∀ p ∈ ds,bits.testBit p.1 = true ∨ (p.2.lo = p.2.hi ∧ p.2.mods = [] ∧ (d = [] ∨ p.2.kind ≤ 1 ∨ (p.2.kind = 2 ∧ p.2.blk ∉ d)))) := by
      intro p hp
      unfold okD at hok
      split at hok
      · rename_i h; exact absurd h hk0
      · rename_i h; exact absurd h hk1
      · rename_i h; exact absurd h hk2
      · rw [hy] at hok
        cases hw : writes C F X.H o.op with
        | true =>
          rw [hw] at hok
          obtain ⟨r,r1,r2⟩ := hD.mem hok p hp
          rw [Bool.or_eq_true] at r2
          rcases r2 with r2 | r2
          · right
            obtain ⟨r2,r3⟩ := and_tt r2
            obtain ⟨r4,r5⟩ := and_tt r2
            refine ⟨r1.lay (by cases h : r.lay <;> simp_all),r1.w (by cases h : r.w <;> simp_all),.inr ?_⟩
            rw [Bool.or_eq_true] at r3
            rcases r3 with r3 | r3
            · left; rw [r1.k]; exact Nat.le_of_ble_eq_true r3
            · right
              obtain ⟨r6,r7⟩ := and_tt r3
              have := beq_nat r6
              refine ⟨r1.k.trans this,fun hb => ?_⟩
              exact (r1.fz this r7).1 (.inr (k3.dl _ hb).2)
          · exact .inl (by rw [← r1.j]; exact hB _ r2)
        | false =>
          rw [hw] at hok
          obtain ⟨r,r1,r2⟩ := hD.mem hok p hp
          rw [Bool.or_eq_true] at r2
          rcases r2 with r2 | r2
          · right
            obtain ⟨r4,r5⟩ := and_tt r2
            exact ⟨r1.lay (by cases h : r.lay <;> simp_all),r1.w (by cases h : r.w <;> simp_all),.inl (k4 hw)⟩
          · exact .inl (by rw [← r1.j]; exact hB _ r2)
    have hhid : hiddenOf bits ds = [] := List.eq_nil_iff_forall_not_mem.2 fun q hq => by
      obtain ⟨p,p1,p2,p3,_⟩ := hidden_mem hq
      rcases hokr p p1 with h | h
      · rw [p2] at h; cases h
      · exact p3 h.1
    have hout : outer s.next s1 = d := by
      unfold outer
      rw [hm]
      exact List.filter_eq_self.2 fun N hN => by simp [(k3.dl N hN).1]
    have hdo := drawOk_of (bits := bits) (ds := ds) (view := s.t) (d := ⟨3,0,s.next,s1.next,d,againOf T fr o s.next v,s1.t⟩) (.inl rfl) (fun N hN => ⟨(k3.dl N hN).1,by rw [h1]; exact live_some hR.rel (k3.dl N hN).2⟩) (by simp) (fun h => by cases h) (fun p hp => by
      rcases hokr p hp with h | ⟨_,h,h'⟩
      · exact .inl h
      · refine .inr ?_
        unfold okPair okOne
        rcases h' with rfl | h' | ⟨h',h''⟩
        · simp [h]
        · simp [h,h']
        · simp [h,h',h''])
    have hg : ∀ M,M < s1.next → (giveBack d s1.t (giveRange (s1.next - s.next) s.next s1.t s.t)).get M = s1.t.get M := by
      intro M hM
      rw [giveBack_get,giveRange_get]
      by_cases hd : M ∈ d
      · rw [if_pos hd]
      · rw [if_neg hd]
        by_cases hx : s.next ≤ M ∧ M < s.next + (s1.next - s.next)
        · rw [if_pos hx]
        · rw [if_neg hx]
          have := k3.old M (by show M < s.next; omega) hd
          exact this.symm
    obtain ⟨g1,g2⟩ := Step.same (Y := ⟨X.wb,X.ns ++ ns',H',s.t,s.next⟩) (s2 := ⟨giveBack d s1.t (giveRange (s1.next - s.next) s.next s1.t s.t),s1.next,d ++ s.mods⟩) hR.rel k3 rfl (by rw [hm]) hg
    refine ⟨k,v,⟨3,0,s.next,s1.next,d,againOf T fr o s.next v,s1.t⟩,_,?_,sv,_,d,k1,k2.later g2,g1,?_⟩
    · unfold drawOne
      rw [hk3,hb,hhid]
      have hv : viewOf 3 0 [] s.t = s.t := rfl
      simp only [hv,e,hout]
      have hdo' : drawOk bits ds s.t ⟨3,0,s.next,s1.next,d,againOf T fr o s.next v,s1.t⟩ = true := hdo
      rw [if_pos hdo']
    · have e9 : mkD C F X.H i o.op = ⟨i,3,true,writes C F X.H o.op,false,lenH X.H⟩ := by
        unfold mkD
        split
        · rename_i h; exact absurd h hk0
        · rename_i h; exact absurd h hk1
        · rename_i h; exact absurd h hk2
        · rfl
      rw [e9]
      exact DrOk.later (X := X) g1.later g1.ns ⟨rfl,rfl,(fun h => by cases h),by simp only; omega,hltn,k4,fun h => by cases h⟩
def foldE (acc : List Nat) (l : List Edge) : Nat := l.foldl (fun s e => if Region.binds .any e then s ||| 2 ^ e.on ||| acc.getD e.on 0 else s) 0
theorem foldE_keep {acc : List Nat} {j : Nat} : ∀ (l : List Edge) (s : Nat),s.testBit j = true → (l.foldl (fun s e => if Region.binds .any e then s ||| 2 ^ e.on ||| acc.getD e.on 0 else s) s).testBit j = true
  | [],s,h => h
  | e :: l,s,h => by
    rw [List.foldl_cons]
    refine foldE_keep l _ ?_
    split
    · simp [Nat.testBit_or,h]
    · exact h
theorem foldE_bit {acc : List Nat} {j : Nat} {e : Edge} (hb : Region.binds .any e = true) (hj : e.on = j ∨ (acc.getD e.on 0).testBit j = true) : ∀ (l : List Edge) (s : Nat),e ∈ l → (l.foldl (fun s e => if Region.binds .any e then s ||| 2 ^ e.on ||| acc.getD e.on 0 else s) s).testBit j = true
  | [],s,h => by cases h
  | d :: l,s,h => by
    rw [List.foldl_cons]
    rcases List.mem_cons.1 h with rfl | h
    · refine foldE_keep l _ ?_
      rw [if_pos hb]
      rcases hj with rfl | hj
      · simp [Nat.testBit_or,Nat.testBit_two_pow]
      · rw [Nat.testBit_or,hj,Bool.or_true]
    · exact foldE_bit hb hj l _ h
theorem befL_prefix : ∀ (os : List Oper) (acc : List Nat) (i : Nat),i < acc.length → (befL acc os).getD i 0 = acc.getD i 0
  | [],acc,i,_ => rfl
  | o :: os,acc,i,h => by
    unfold befL
    rw [befL_prefix os _ i (by simp; omega)]
    simp [List.getD_eq_getElem?_getD,List.getElem?_append_left h]
theorem befL_at : ∀ (os : List Oper) (acc : List Nat) (k : Nat) (o : Oper),os[k]? = some o → ∃ acc',acc'.length = acc.length + k ∧ (∀ i,i < acc.length + k → acc'.getD i 0 = (befL acc os).getD i 0) ∧ (befL acc os).getD (acc.length + k) 0 = foldE acc' o.after.toList
  | [],acc,k,o,h => by simp at h
  | p :: os,acc,0,o,h => by
    simp at h; subst h
    refine ⟨acc,rfl,fun i hi => (befL_prefix _ acc i (by omega)).symm,?_⟩
    unfold befL
    rw [befL_prefix os _ _ (by simp)]
    simp only [Nat.add_zero,List.getD_eq_getElem?_getD]
    rw [List.getElem?_append_right (Nat.le_refl _)]
    simp [foldE]
  | p :: os,acc,k + 1,o,h => by
    obtain ⟨acc',h1,h2,h3⟩ := befL_at os (acc ++ [p.after.toList.foldl (fun s e => if Region.binds .any e then s ||| 2 ^ e.on ||| acc.getD e.on 0 else s) 0]) k o (by simpa using h)
    have e : (acc ++ [p.after.toList.foldl (fun s e => if Region.binds .any e then s ||| 2 ^ e.on ||| acc.getD e.on 0 else s) 0]).length + k = acc.length + (k + 1) := by simp; omega
    rw [e] at h1 h2 h3
    exact ⟨acc',h1,h2,h3⟩
theorem edgesAt_some : ∀ {all : List Oper} {i : Nat} {e : Edge},e ∈ edgesAt all i → ∃ o,all[i]? = some o ∧ e ∈ o.after.toList
  | [],_,_,h => by cases h
  | o :: _,0,_,h => ⟨o,rfl,h⟩
  | _ :: l,i + 1,_,h => by simpa using edgesAt_some (all := l) (i := i) h
theorem anyE_ex {R : Edge → Bool} : ∀ {l : List Edge},anyE R l = true → ∃ e ∈ l,Region.binds .any e = true ∧ R e = true
  | [],h => by cases h
  | e :: l,h => by
    unfold anyE at h
    rw [Bool.or_eq_true] at h
    rcases h with h | h
    · obtain ⟨h1,h2⟩ := and_tt h; exact ⟨e,List.mem_cons_self,h1,h2⟩
    · obtain ⟨e',h1,h2⟩ := anyE_ex h; exact ⟨e',List.mem_cons_of_mem _ h1,h2⟩
theorem ordF_ok {all : List Oper} : ∀ (f i j : Nat),ordF all f i j = true → ((befL [] all).getD i 0).testBit j = true
  | 0,_,_,h => by cases h
  | f + 1,i,j,h => by
    unfold ordF at h
    rw [Bool.or_eq_true] at h
    have main : ∀ e ∈ edgesAt all i,Region.binds .any e = true → (e.on = j ∨ (e.on < i ∧ ((befL [] all).getD e.on 0).testBit j = true)) → ((befL [] all).getD i 0).testBit j = true := by
      intro e he hb hj
      obtain ⟨o,ho,hm⟩ := edgesAt_some he
      obtain ⟨acc',a1,a2,a3⟩ := befL_at all [] i o ho
      simp only [List.length_nil,Nat.zero_add] at a1 a2 a3
      rw [a3]
      refine foldE_bit hb ?_ _ _ hm
      rcases hj with hj | ⟨h1,h2⟩
      · exact .inl hj
      · exact .inr (by rw [a2 _ h1]; exact h2)
    rcases h with h | h
    · obtain ⟨e,h1,h2,h3⟩ := anyE_ex h
      exact main e h1 h2 (.inl (beq_nat h3))
    · obtain ⟨e,h1,h2,h3⟩ := anyE_ex h
      obtain ⟨h4,h5⟩ := and_tt h3
      obtain ⟨_,h4⟩ := and_tt h4
      exact main e h1 h2 (.inr ⟨Nat.le_of_ble_eq_true h4,ordF_ok f _ _ h5⟩)
theorem draw_sound {nt m : Nat} {C : FuncId → Option (Spec U)} (ok : SysOk T S) (hsz : ∀ e,S.size e < END) {R : Env U → Prop} (hC : CallsOk T S C R) {X0 : Env U} {s0 : St} {ops : Array Oper} : ∀ {os : List Oper} {i : Nat} {D : List Dr} {ds : List (Nat × Did)} {X : Env U} {F : Frm U} {fr : Fr} {s : St} {K : Frm U → Hp U → Prop},R X → Rl S nt dq X F fr s → Tr m X0 s0 X s → DsOk X D ds → wpDraw S C nt ops.toList os i D F X.H K → EndsDraw T ops (befL [] ops.toList) i os ds fr s (fun fr s => ∃ F X,K F X.H ∧ Rl S nt dq X F fr s ∧ Tr m X0 s0 X s)
  | [],i,D,ds,X,F,fr,s,K,hRX,hR,hT,hD,h => EndsDraw.nil ⟨F,X,h,hR,hT⟩
  | o :: os,i,D,ds,X,F,fr,s,K,hRX,hR,hT,hD,h => by
    have go : (bif okD C F X.H (ord ops.toList i) D o.op then step S C F X.H o.op (fun v H' => after nt o.dst F v H' fun F' H' => wpDraw S C nt ops.toList os (Nat.succ i) (mkD C F X.H i o.op :: D) F' H' K) else False) → Region.wanted o (yieldedL ops fr.tmps) = true → EndsDraw T ops (befL [] ops.toList) i (o :: os) ds fr s (fun fr s => ∃ F X,K F X.H ∧ Rl S nt dq X F fr s ∧ Tr m X0 s0 X s) := by
      intro h hw
      obtain ⟨hok,h⟩ := bif_true h
      obtain ⟨k,v,dd,s2,e,sv,X2,d,k1,k2,k3,k4⟩ := draw_step (bits := (befL [] ops.toList).getD i 0) (i := i) ok hsz hC (fun j hj => ordF_ok 8 i j hj) hRX hR hD hok h
      obtain ⟨F',k5,k6⟩ := after_sound hR k3.w k2 k1
      exact EndsDraw.one hw e (draw_sound ok hsz hC (D := mkD C F X.H i o.op :: D) (hC.1 _ _ k3.later hRX) k6 (hT.step k3.w) ⟨k4,hD.later k3.later k3.ns⟩ k5)
    have skip : after nt o.dst F .skip X.H (fun F H => wpDraw S C nt ops.toList os (Nat.succ i) D F H K) → Region.wanted o (yieldedL ops fr.tmps) = false → EndsDraw T ops (befL [] ops.toList) i (o :: os) ds fr s (fun fr s => ∃ F X,K F X.H ∧ Rl S nt dq X F fr s ∧ Tr m X0 s0 X s) := by
      intro h hw
      have hs := Step.refl hR.rel hR.t.symm hR.n.symm
      obtain ⟨F',k4,k5⟩ := after_sound (v := Go.undef) hR hs.w (.skip .nil) h
      exact EndsDraw.skip1 hw rfl (draw_sound ok hsz hC (hC.1 _ _ hs.later hRX) k5 (hT.step hs.w) hD k4)
    obtain ⟨dst,op,ty,pos,aft,guard⟩ := o
    cases guard with
    | none => exact go h rfl
    | some q =>
      obtain ⟨j,w⟩ := q
      obtain ⟨g1,g2⟩ := gval_sound (ops := ops) (j := j) hR.frm
      have h : (match gval ops.toList F j with
        | .bool b => ifB b w (bif okD C F X.H (ord ops.toList i) D op then step S C F X.H op fun v H' => after nt dst F v H' fun F' H' => wpDraw S C nt ops.toList os (Nat.succ i) (mkD C F X.H i op :: D) F' H' K else False) (after nt dst F .skip X.H fun F H => wpDraw S C nt ops.toList os (Nat.succ i) D F H K)
        | .skip => after nt dst F .skip X.H fun F H => wpDraw S C nt ops.toList os (Nat.succ i) D F H K
        | _ => False) := h
      cases hv : gval ops.toList F j with
      | bool b =>
        rw [hv] at h
        have h := ifB_eq h
        have hy := g1 b hv
        by_cases e : b = w
        · exact go (h.1 e) (by unfold Region.wanted; simp only [hy,e]; simp)
        · have e' : b = !w := by cases b <;> cases w <;> simp_all
          exact skip (h.2 e') (by unfold Region.wanted; simp only [hy]; simp [e])
      | skip =>
        rw [hv] at h
        exact skip h (by unfold Region.wanted; simp only [g2 hv]; rfl)
      | _ => rw [hv] at h; exact h.elim
end Go.Sx

/-
  SX, PART R: loops over functions, their rounds: the evaluator's side.
-/
namespace Go.Sx
open Go Go.Ev Go.RowKit
def afterRound (r : Loop) (e : Ex) : Loop := { r with state := if (jumpOf e).isNone then .ready else .done,pending := jumpOf e }
def setL (s : St) (L : Nat) (r : Loop) : St := { s with t := s.t.set L (some (.obj (.loop r))),mods := L :: s.mods }
theorem EndsYield.of {T : Tab} {L : Nat} {args : List Value} {s : St} {r : Loop} {Q : Value → St → Prop} (hL : s.t.get L = some (.obj (.loop r))) (hr : r.state = .ready) (ha : args.length = r.params.toList.length)
    (h : Ev.Ends T ⟨r.fn,some L⟩ r.assign ⟨setMany r.tmps.toList r.params.toList args,[]⟩ s fun e fr s1 => e = .normal ∧ s1.t.get L = some (.obj (.loop r)) ∧
      Ev.Ends T ⟨r.fn,some L⟩ r.body fr (setL s1 L { r with state := .busy }) fun e fr s2 => fr.defers = [] ∧ s2.t.get L = some (.obj (.loop { r with state := .busy })) ∧ Q (.bool (jumpOf e).isNone) (setL s2 L (afterRound r e))) : EndsYield T L args s Q := by
  obtain ⟨k,e,fr,s1,h1,rfl,h2,k2,e2,fr2,s2,h3,h4,h5,h6⟩ := h
  refine ⟨max k k2,_,_,?_,h6⟩
  have g : getLoop L s = some (r,s) := by unfold getLoop; rw [hL]
  have g1 : getLoop L s1 = some (r,s1) := by unfold getLoop; rw [h2]
  have g2 : getLoop L s2 = some ({ r with state := .busy },s2) := by unfold getLoop; rw [h5]
  have b1 : setB L (.obj (.loop { r with state := .busy })) s1 = some ((),setL s1 L { r with state := .busy }) := by unfold setB; rw [h2]; rfl
  have b2 : setB L (.obj (.loop (afterRound r e2))) s2 = some ((),setL s2 L (afterRound r e2)) := by unfold setB; rw [h5]; rfl
  unfold round
  simp only [bnd,g,if_pos ha,evCode_le (Nat.le_max_left k k2) _ _ _ _ _ h1]
  unfold roundBody
  simp only [bnd,g1,if_pos hr,b1,evCode_le (Nat.le_max_right k k2) _ _ _ _ _ h3]
  unfold endRound
  simp only [if_pos h4,bnd,g2]
  have e0 : ({ r with state := if (jumpOf e2).isNone then .ready else .done,pending := jumpOf e2 } : Loop) = afterRound r e2 := rfl
  simp only [e0,b2,ret]
theorem rangeFn {T : Tab} {f0 : FuncId} {f : Operand} {ps : Array Tmp} {as bd : Code} {fr : Fr} {s : St} {Q : Ex → Fr → St → Prop} {g : FuncId} {a c : Array Value} (hf : fr.eval f = .func (.func g) a c)
    (h : ∀ d L : Nat,d = s.next → L = s.next + 1 → ∀ s1 : St,s1.next = s.next + 2 → s1.mods = s.mods → (∀ M,M < s.next → s1.t.get M = s.t.get M) → s1.t.get d = some (.obj (.deferred (some []))) → s1.t.get L = some (.obj (.loop ⟨.ready,none,f0,⟨fr.tmps⟩,ps,as,bd,d⟩)) →
      EndsCall T g (a.toList ++ [.func (.yield L) #[] #[]] ++ c.toList) s1 fun _ s2 => ∃ r : Loop,s2.t.get L = some (.obj (.loop r)) ∧ r.state ≠ .busy ∧
        match r.pending with
        | none => Q .normal ⟨fr.tmps,d :: fr.defers⟩ (setL s2 L { r with state := .exhausted })
        | some .ret => Q .ret ⟨fr.tmps,d :: fr.defers⟩ (setL s2 L { r with state := .exhausted })
        | some (.exit id) => Q (.exit id) ⟨fr.tmps,d :: fr.defers⟩ (setL s2 L { r with state := .exhausted })
        | some _ => False) : Ev.Ends T ⟨f0,none⟩ (.rangeFunc f ps as bd) fr s Q := by
  have hs1 := h s.next (s.next + 1) rfl rfl ⟨(s.t.set s.next (some (.obj (.deferred (some []))))).set (s.next + 1) (some (.obj (.loop ⟨.ready,none,f0,⟨fr.tmps⟩,ps,as,bd,s.next⟩))),s.next + 2,s.mods⟩ rfl rfl
    (fun M hM => by show (Tree.set (Tree.set _ _ _) _ _).get M = _; rw [Tree.get_set_ne _ _ (by omega),Tree.get_set_ne _ _ (by omega)])
    (by show (Tree.set (Tree.set _ _ _) _ _).get _ = _; rw [Tree.get_set_ne _ _ (by omega),Tree.get_set_same]) (Tree.get_set_same _ _ _)
  obtain ⟨k,v,s2,h1,⟨rst,pd,rfn,rtm,rps,ras,rbd,rdf⟩,h2,h3,h4⟩ := hs1
  generalize hr : (⟨rst,pd,rfn,rtm,rps,ras,rbd,rdf⟩ : Loop) = r at h2 h3 h4
  have hg : getLoop (s.next + 1) s2 = some (r,s2) := by unfold getLoop; rw [h2]
  have hb : setB (s.next + 1) (.obj (.loop { r with state := .exhausted })) s2 = some ((),setL s2 (s.next + 1) { r with state := .exhausted }) := by unfold setB; rw [h2]; rfl
  have run : evCode T (k + 1) ⟨f0,none⟩ (.rangeFunc f ps as bd) fr s = endLoop (s.next + 1) ⟨fr.tmps,s.next :: fr.defers⟩ s2 := by
    show (bnd (deferBlock ⟨f0,none⟩ fr) fun q => bnd (newB _) fun l => bnd (callValue T (evCode T k) (fr.eval f) [.func (.yield l) #[] #[]]) fun _ => endLoop l { fr with defers := q.2 }) s = _
    have h1' : enter T (evCode T k) g (a.toList ++ [.func (.yield (s.next + 1)) #[] #[]] ++ c.toList) ⟨(s.t.set s.next (some (.obj (.deferred (some []))))).set (s.next + 1) (some (.obj (.loop ⟨.ready,none,f0,⟨fr.tmps⟩,ps,as,bd,s.next⟩))),s.next + 2,s.mods⟩ = some (v,s2) := h1
    unfold deferBlock
    simp only [bnd,newB,hf,callValue]
    dsimp only [Ev.ret]
    simp only [h1']
  have fin : ∀ (e : Ex),endLoop (s.next + 1) ⟨fr.tmps,s.next :: fr.defers⟩ s2 = some ((e,⟨fr.tmps,s.next :: fr.defers⟩),setL s2 (s.next + 1) { r with state := .exhausted }) → Q e ⟨fr.tmps,s.next :: fr.defers⟩ (setL s2 (s.next + 1) { r with state := .exhausted }) → Ev.Ends T ⟨f0,none⟩ (.rangeFunc f ps as bd) fr s Q := fun e h5 h6 => ⟨k + 1,e,_,_,run.trans h5,h6⟩
  have hE : endLoop (s.next + 1) ⟨fr.tmps,s.next :: fr.defers⟩ s2 = (match r.pending with
      | none => Ev.ret ((Ex.normal,⟨fr.tmps,s.next :: fr.defers⟩) : Ex × Fr)
      | some .ret => Ev.ret (Ex.ret,⟨fr.tmps,s.next :: fr.defers⟩)
      | some (.exit id) => Ev.ret (Ex.exit id,⟨fr.tmps,s.next :: fr.defers⟩)
      | some _ => fail : M (Ex × Fr)) (setL s2 (s.next + 1) { r with state := .exhausted }) := by
    unfold endLoop
    simp only [bnd,hg]
    rw [if_neg h3]
    simp only [bnd,hb]
    rfl
  subst hr
  cases pd with
  | none => exact fin .normal (hE.trans rfl) h4
  | some c =>
    cases c with
    | ret => exact fin .ret (hE.trans rfl) h4
    | exit id => exact fin (.exit id) (hE.trans rfl) h4
    | _ => exact h4.elim
variable {U : Nat → Type} {T : Tab} {S : Sys U}
theorem Step.loopTo {X : Env U} (hr : HRel S X) {s : St} (h1 : s.t = X.t) (h2 : s.next = X.n) {i N : Nat} {r r' : Loop} {st : LoopState} {pd : Option Code} {c' : Con U} (hi : X.H[i]? = some (.loop r st pd)) (hN : X.ns[i]? = some (some N)) (hc : c' = .dead ∨ ∃ st' pd',c' = .loop r st' pd' ∧ r' = { r with state := st',pending := pd' }) :
    Step S X s ⟨X.wb,X.ns,X.H.set i c',(setL s N r').t,(setL s N r').next⟩ (setL s N r') [N] := by
  have hlive : X.liveN N := ⟨i,_,hN,hi,rfl⟩
  have hlt : N < X.n := (hr.lt i N hN).1
  have hs : Same (.loop r st pd) c' := by
    intro fz ex e k l h
    rcases hc with hc | ⟨_,_,hc,_⟩ <;> (rw [hc] at h; cases h)
  have hget : ∀ M,M ≠ N → (s.t.set N (some (.obj (.loop r')))).get M = X.t.get M := fun M hM => by rw [Tree.get_set_ne _ _ hM,h1]
  obtain ⟨L1,R1⟩ := hr.put (c' := c') (t' := s.t.set N (some (.obj (.loop r')))) hi hN rfl hs hget (fun X' _ ht hn _ => by
    rcases hc with hc | ⟨st',pd',hc,hr'⟩
    · rw [hc]; trivial
    · rw [hc]
      refine ⟨N,rfl,?_,by rw [hn]; exact hlt⟩
      rw [ht,Tree.get_set_same,hr'])
  have e : (⟨X.wb,X.ns,X.H.set i c',(setL s N r').t,(setL s N r').next⟩ : Env U) = ⟨X.wb,X.ns,X.H.set i c',s.t.set N (some (.obj (.loop r'))),X.n⟩ := by
    show (⟨_,_,_,s.t.set N _,s.next⟩ : Env U) = _
    rw [h2]
  rw [e]
  refine ⟨rfl,rfl,h2.symm,R1,L1,Nat.le_refl _,fun M _ hM => ?_,rfl,fun M hM => ?_,fun M _ hM => ?_,List.prefix_refl _⟩
  · obtain ⟨j,cj,k1,k2,k3⟩ := hM
    have k2 : (X.H.set i c')[j]? = some cj := k2
    by_cases hij : i = j
    · subst hij
      exact ⟨i,_,k1,hi,rfl⟩
    · rw [List.getElem?_set_ne hij] at k2
      exact ⟨j,cj,k1,k2,k3⟩
  · rw [List.mem_singleton] at hM
    subst hM
    exact ⟨by rw [h2]; exact hlt,hlive⟩
  · rw [List.mem_singleton] at hM
    show (s.t.set N _).get M = _
    rw [Tree.get_set_ne _ _ hM]
theorem setMany_len : ∀ (ps : List Tmp) (vals tmps : List Value),(setMany tmps ps vals).length = tmps.length
  | [],vals,tmps => by cases vals <;> rfl
  | t :: ts,[],tmps => rfl
  | t :: ts,v :: vs,tmps => by unfold setMany; rw [setMany_len,List.length_set]
theorem setF_ok {X : Env U} : ∀ {ps : List Tmp} {args : List (SV U)} {vals : List Value} {F : Frm U} {tmps : List Value},allTmp tmps.length ps = true → DenL S X args vals → FrmOk S X F tmps → FrmOk S X (setF ps args F) (setMany tmps ps vals)
  | [],args,vals,F,tmps,_,d,hF => by
    cases args <;> cases vals <;> exact hF
  | t :: ts,[],vals,F,tmps,_,d,hF => by cases d; exact hF
  | t :: ts,v :: args,vals,F,tmps,hp,d,hF => by
    obtain ⟨w,ws,rfl,d1,d2⟩ := d.uncons
    obtain ⟨h1,h2⟩ := and_tt hp
    unfold setF setMany
    exact setF_ok (by rw [List.length_set]; exact h2) d2 (hF.put (Nat.le_of_ble_eq_true h1) d1)
end Go.Sx

/-
  SX, PART P: the walk is sound: code, functions.
-/
namespace Go.Sx
open Go Go.Ev Go.RowKit
variable {U : Nat → Type} {T : Tab} {S : Sys U}
variable {dq : List Nat}
theorem EndsOps.any {fr : Fr} {s : St} {ops : Array Oper} {o : Oper} {os : List Oper} {Q : Fr → St → Prop} {k : Nat} {v : Value} {s1 : St} (hw : Region.wanted o (yieldedL ops fr.tmps) = true) (h0 : evOp T (evCode T k) fr o s = some (v,s1)) (h : EndsOps T ops os (fr.put o.dst v) s1 Q) : EndsOps T ops (o :: os) fr s Q := by
  obtain ⟨k2,fr',s',h3,h4⟩ := h
  refine ⟨max k k2,fr',s',?_,h4⟩
  unfold evOps
  rw [if_pos hw]
  have e1 := Mle.evOp (evCode_le (Nat.le_max_left k k2)) fr o _ _ h0
  simp only [bnd,e1]
  exact Mle.evOps (evCode_le (Nat.le_max_right k k2)) ops os _ _ _ h3
structure ParOk (T : Tab) (p : Par U) : Prop where
  ok : SysOk T p.S
  sz : ∀ e,p.S.size e < END
  C : CallsOk T p.S p.C fun _ => True
  I : ItsOk T p.S p.I
structure ParR (T : Tab) (p : Par U) (R : Env U → Prop) (X0 : Env U) (s0 : St) : Prop where
  ok : SysOk T p.S
  sz : ∀ e,p.S.size e < END
  C : CallsOk T p.S p.C R
  I : ItsOk T p.S p.I
  RT : ∀ X s,HRel p.S X → X.t = s.t → X.n = s.next → Tr p.m X0 s0 X s → R X
theorem ParOk.r {p : Par U} (P : ParOk T p) (X0 : Env U) (s0 : St) : ParR T p (fun _ => True) X0 s0 := ⟨P.ok,P.sz,P.C,P.I,fun _ _ _ _ _ _ => trivial⟩
def OpsPost (S : Sys U) (nt : Nat) (dq : List Nat) (m : Nat) (X0 : Env U) (s0 : St) (K : Frm U → Hp U → Prop) (fr : Fr) (s : St) : Prop := ∃ F X,K F X.H ∧ Rl S nt dq X F fr s ∧ Tr m X0 s0 X s
theorem ops_sound {p : Par U} {R : Env U → Prop} {X0 : Env U} {s0 : St} (P : ParR T p R X0 s0) {ops : Array Oper} : ∀ {os : List Oper} {X : Env U} {F : Frm U} {fr : Fr} {s : St} {K : Frm U → Hp U → Prop},Rl p.S p.nt dq X F fr s → Tr p.m X0 s0 X s → wpOps p.S p.C p.nt ops.toList os F X.H K → EndsOps T ops os fr s (OpsPost p.S p.nt dq p.m X0 s0 K)
  | [],X,F,fr,s,K,hR,hT,h => EndsOps.nil ⟨F,X,h,hR,hT⟩
  | o :: os,X,F,fr,s,K,hR,hT,h => by
    have go : step p.S p.C F X.H o.op (fun v H => after p.nt o.dst F v H fun F H => wpOps p.S p.C p.nt ops.toList os F H K) → Region.wanted o (yieldedL ops fr.tmps) = true → EndsOps T ops (o :: os) fr s (OpsPost p.S p.nt dq p.m X0 s0 K) := by
      intro h hw
      have hst : ∃ k v s',evOp T (evCode T k) fr o s = some (v,s') ∧ PostW p.S (fun v H => after p.nt o.dst F v H fun F H => wpOps p.S p.C p.nt ops.toList os F H K) X s v s' := by
        cases hy : isY F o.op with
        | true => exact yield_sound P.C (P.RT _ _ hR.rel hR.t hR.n hT) hR hy h
        | false =>
          obtain ⟨k,v,s',e,sv,H',ns',d,k1,k2,k3,_⟩ := step_sound P.ok P.sz P.C (P.RT _ _ hR.rel hR.t hR.n hT) hR hy h
          exact ⟨k,v,s',e,sv,H',ns',d,k1,k2,k3.w⟩
      obtain ⟨k,v,s',e,sv,H',ns',d,k1,k2,k3⟩ := hst
      obtain ⟨F',k4,k5⟩ := after_sound (X' := ⟨X.wb,X.ns ++ ns',H',s'.t,s'.next⟩) hR k3 k2 k1
      exact EndsOps.any hw e (ops_sound P k5 (hT.step k3) k4)
    have skip : after p.nt o.dst F .skip X.H (fun F H => wpOps p.S p.C p.nt ops.toList os F H K) → Region.wanted o (yieldedL ops fr.tmps) = false → EndsOps T ops (o :: os) fr s (OpsPost p.S p.nt dq p.m X0 s0 K) := by
      intro h hw
      have hs := Step.refl hR.rel hR.t.symm hR.n.symm
      obtain ⟨F',k4,k5⟩ := after_sound (v := Go.undef) hR hs.w (.skip .nil) h
      exact EndsOps.skip hw (ops_sound P k5 (hT.step hs.w) k4)
    obtain ⟨dst,op,ty,pos,aft,guard⟩ := o
    cases guard with
    | none => exact go h rfl
    | some q =>
      obtain ⟨j,w⟩ := q
      obtain ⟨g1,g2⟩ := gval_sound (ops := ops) (j := j) hR.frm
      have h : (match gval ops.toList F j with
        | .bool b => ifB b w (step p.S p.C F X.H op fun v H => after p.nt dst F v H fun F H => wpOps p.S p.C p.nt ops.toList os F H K) (after p.nt dst F .skip X.H fun F H => wpOps p.S p.C p.nt ops.toList os F H K)
        | .skip => after p.nt dst F .skip X.H fun F H => wpOps p.S p.C p.nt ops.toList os F H K
        | _ => False) := h
      cases hv : gval ops.toList F j with
      | bool b =>
        rw [hv] at h
        have h := ifB_eq h
        have hy := g1 b hv
        by_cases e : b = w
        · exact go (h.1 e) (by unfold Region.wanted; simp only [hy,e]; simp)
        · have e' : b = !w := by cases b <;> cases w <;> simp_all
          exact skip (h.2 e') (by unfold Region.wanted; simp only [hy]; simp [e])
      | skip =>
        rw [hv] at h
        exact skip h (by unfold Region.wanted; simp only [g2 hv]; rfl)
      | _ => rw [hv] at h; exact h.elim
theorem adopt_sound {nt m : Nat} {X0 : Env U} {s0 : St} {H0 : Hp U} {fr : Fr} {s : St} (F0 : Frm U) : ∀ {F : Frm U} {X : Env U} {K : Frm U → Hp U → Prop},Rl S nt dq X F fr s → Tr m X0 s0 X s → adopt H0 F0 F X.H K → ∃ F' X',K F' X'.H ∧ Rl S nt dq X' F' fr s ∧ Tr m X0 s0 X' s := by
  induction F0 with
  | nil => exact fun {F X K} hR hT h => ⟨F,X,h,hR,hT⟩
  | cons p F0 ih =>
    intro F X K hR hT h
    obtain ⟨t,v⟩ := p
    cases v with
    | ol i =>
      unfold adopt at h
      split at h
      · rename_i hg
        split at h
        · rename_i fz ex e c l hc
          have hd := hR.frm t
          rw [hg] at hd
          have hw : fr.tmps.getD t Go.undef = .slice none 0 0 := by generalize fr.tmps.getD t Go.undef = w at hd; cases hd; rfl
          obtain ⟨g1,g2⟩ := app_empty (S := S) hR.rel (c := c) (e := e) (a := none) (.inl rfl) hR.t.symm hR.n.symm rfl
          rw [snoc_eq,lenH_eq] at h
          have hF : FrmOk S ⟨X.wb,X.ns ++ [none],X.H ++ [.list false false e c []],s.t,s.next⟩ ((t,.ol X.H.length) :: F) fr.tmps := by
            intro q
            unfold get
            cases hb : Nat.beq q t with
            | true => have := beq_nat hb; subst this; rw [hw]; exact g1
            | false => exact (hR.frm q).later g2.later
          exact ih (X := ⟨X.wb,X.ns ++ [none],X.H ++ [.list false false e c []],s.t,s.next⟩) ⟨rfl,rfl,g2.rel,hF,hR.len,hR.dfs,hR.dqn,dq_later g2.later hR.dqs⟩ (hT.step g2.w) h
        · exact h.elim
      · exact ih hR hT h
    | osl i a n =>
      unfold adopt at h
      split at h
      · rename_i j hg
        split at h
        · rename_i fz ex e c l hc
          have hd := hR.frm t
          rw [hg] at hd
          obtain ⟨N,k1,k2⟩ := olDen_list hd hc
          have hF : FrmOk S X ((t,.osl j 0 l.length) :: F) fr.tmps := by
            intro q
            unfold get
            cases hb : Nat.beq q t with
            | true =>
              have := beq_nat hb; subst this
              have hv := olVal_osl k2
              obtain ⟨a',cap',hw,_⟩ := oslVal_len hv
              rw [hw] at hv ⊢
              refine .osl ?_ .nil
              unfold oslDen
              rw [conAt_get hc (by simp)]
              exact ⟨N,k1,hv⟩
            | false => exact hR.frm q
          exact ih ⟨hR.t,hR.n,hR.rel,hF,hR.len,hR.dfs,hR.dqn,hR.dqs⟩ hT h
        · exact h.elim
      · exact ih hR hT h
    | _ => exact ih hR hT h
theorem covers_sound (ok : SysOk T S) {nt m : Nat} {X0 : Env U} {s0 : St} {F0 F : Frm U} {H0 : Hp U} {X : Env U} {fr : Fr} {s : St} (hR : Rl S nt dq X F fr s) (hT : Tr m X0 s0 X s) (h : covers m F0 H0 F X.H) : ∃ X',X'.H = H0 ∧ Rl S nt dq X' F0 fr s ∧ Tr m X0 s0 X' s := by
  obtain ⟨F1,X1,h1,hR1,hT1⟩ := adopt_sound F0 hR hT h
  unfold covers1 at h1
  obtain ⟨hc,h2,h3⟩ := bif_true h1
  obtain ⟨hc1,hc2⟩ := and_tt hc
  obtain ⟨hc2,hc3⟩ := and_tt hc2
  have hc3 := Nat.le_of_ble_eq_true hc3
  rw [lenH_eq] at h2 h3 hc1 hc3
  generalize pairH (pairF F0 F1) X1.H 0 H0 = σ at *
  refine ⟨X1.ren σ H0,rfl,⟨hR1.t,hR1.n,ren_rel ok hR1.rel h3 hc1,eqF_den ok h3 h2 hR1.frm,hR1.len,hR1.dfs,hR1.dqn,fun D hD => ⟨(hR1.dqs D hD).1,(hR1.dqs D hD).2.1,fun h => (hR1.dqs D hD).2.2 (ren_fb h3 h)⟩⟩,⟨hT1.wb,hT1.next,fun N hN hl => hT1.live N hN (ren_live h3 hl),hT1.mods,fun i hi => ?_⟩⟩
  obtain ⟨N,c,c',k1,k2,k3,k4,k5⟩ := hT1.ids i hi
  have hfix := fixR_ok hc2 i (Nat.zero_le _) (by omega)
  have hl : i < H0.length := by omega
  · have h5 := eqH_at h3 (List.getElem?_eq_getElem hl)
    rw [Nat.zero_add,hfix] at h5
    refine ⟨N,c,H0[i],k1,?_,k3,List.getElem?_eq_getElem hl,k5.trans fun fz ex e k l e1 => ?_⟩
    · show (nsR σ X1.ns H0.length)[i]? = _
      rw [nsR_get hl,hfix,k2]; rfl
    · rw [e1] at h5
      cases hcon : conAt X1.H i with
      | list fz' ex' e' k' l' =>
        rw [hcon] at h5
        obtain ⟨h6,h7,h8,h9⟩ := bif_true h5
        obtain ⟨ek,h9⟩ := castL_ex h9
        have := beq_nat h6
        subst this h8 ek h9
        rw [conAt_get hcon (by simp)] at k4
        cases k4
        exact ⟨_,_,rfl,rfl⟩
      | _ => rw [hcon] at h5; exact h5.elim
def CodePost (S : Sys U) (nt : Nat) (dq : List Nat) (m : Nat) (X0 : Env U) (s0 : St) (K : Ex → Frm U → Hp U → Prop) (q : Bool) (e : Ex) (fr : Fr) (s : St) : Prop := ∃ dq' F X,K e F X.H ∧ Rl S nt dq' X F fr s ∧ Tr m X0 s0 X s ∧ (∀ D ∈ dq',D ∈ dq ∨ s0.next ≤ D) ∧ (q = true → dq' = dq)
theorem newMods_of {s s' : St} {d : List Nat} (h : s'.mods = d ++ s.mods) : newMods s s' = d.filter fun N => N < s.next || s'.next ≤ N := by
  unfold newMods
  rw [h,List.length_append,Nat.add_sub_cancel,List.take_left]
theorem Tr.end {X0 X : Env U} {s0 s : St} (hr : HRel S X0) (h1 : s0.t = X0.t) (h2 : s0.next = X0.n) (hT : Tr X0.H.length X0 s0 X s) (ht : X.t = s.t) (hn : X.n = s.next) (hX : HRel S X) :
    ∃ ns' d,X = ⟨X0.wb,X0.ns ++ ns',X.H,s.t,s.next⟩ ∧ Step S X0 s0 X { s with mods := newMods s0 s ++ s0.mods } d ∧ ((∀ N,¬ X0.liveN N) → d = []) := by
  obtain ⟨d,m1,m2,m3⟩ := hT.mods
  have hpre : X0.ns <+: X.ns := by
    rw [List.prefix_iff_getElem?]
    intro i hi
    obtain ⟨N,_,_,k1,k2,_⟩ := hT.ids i (by rw [← hr.len]; exact hi)
    rw [List.getElem?_eq_getElem hi] at k1
    rw [k2]; exact k1.symm
  obtain ⟨ns',hns⟩ := hpre
  have hm := newMods_of m1
  have hXe : X = ⟨X0.wb,X0.ns ++ ns',X.H,s.t,s.next⟩ := by
    obtain ⟨a,b,c,e,f⟩ := X
    have w := hT.wb
    simp only at ht hn hns w
    subst ht hn w
    rw [hns]
  have hlive0 : ∀ N,N ∈ newMods s0 s → N < s0.next ∧ X0.liveN N := by
    intro N hN
    rw [hm] at hN
    obtain ⟨h3,h4⟩ := List.mem_filter.1 hN
    obtain ⟨h5,h6⟩ := m2 N h3
    have h4 : N < s0.next := by
      rw [Bool.or_eq_true] at h4
      rcases h4 with h4 | h4
      · exact of_decide_eq_true h4
      · have := of_decide_eq_true h4; omega
    exact ⟨h4,h6 h4⟩
  have hold : ∀ N,N < s0.next → N ∉ newMods s0 s → s.t.get N = s0.t.get N := by
    intro N hN hne
    refine m3 N hN fun hd => hne ?_
    rw [hm]
    exact List.mem_filter.2 ⟨hd,by simp [hN]⟩
  have hL : Later X0 X := by
    rw [hXe]
    refine Later.of (fun i c hc => ?_) (fun i c' k1 k2 N k3 k4 => ?_) (fun N hN hf => ?_) (by rw [← h2]; exact hT.next)
    · obtain ⟨N,c0,c',_,_,k3,k4,k5⟩ := hT.ids i (List.getElem?_eq_some_iff.1 hc).1
      rw [hc] at k3; cases k3
      exact ⟨c',k4,k5⟩
    · exact hT.live N (by omega) ⟨i,c',by rw [← hns]; exact k3,k1,k2⟩
    · rw [← h1]
      exact hold N (by omega) fun hd => hf (.inr (hlive0 N hd).2)
  refine ⟨ns',newMods s0 s,hXe,⟨hT.wb,ht,hn,hX,hL,hT.next,hT.live,rfl,hlive0,hold,⟨ns',hns⟩⟩,fun hno => ?_⟩
  exact List.eq_nil_iff_forall_not_mem.2 fun N hN => hno N (hlive0 N hN).2
def WOk (U : Nat → Type) (T : Tab) (c : Code) : Prop := ∀ {p : Par U} {R : Env U → Prop} {X0 : Env U} {s0 : St} (_ : ParR T p R X0 s0) {cx : Ctx} (_ : cx.round = none ∨ noR c = true) {dq : List Nat} {X : Env U} {F : Frm U} {fr : Fr} {s : St} {K : Ex → Frm U → Hp U → Prop},Rl p.S p.nt dq X F fr s → Tr p.m X0 s0 X s → wp p c F X.H K → Ev.Ends T cx c fr s (CodePost p.S p.nt dq p.m X0 s0 K (noR c))
theorem rnd_sound {p : Par U} {R : Env U → Prop} (ok : SysOk T p.S) (sz : ∀ e,p.S.size e < END) (hC : CallsOk T p.S p.C R) (hI : ItsOk T p.S p.I) {as bd : Code} (iha : WOk U T as) (ihb : WOk U T bd) (hna : noR as = true) (hnb : noR bd = true) {F : Frm U} {tmps : List Value} (hlen : tmps.length = p.nt) {f0 : FuncId} {ps : Array Tmp} {D i : Nat} :
    RndOk T p.S (fun X => FrmOk p.S X F tmps ∧ R X) (rndS p ps.toList (fun p => wp p as) (fun p => wp p bd) F ⟨.ready,none,f0,⟨tmps⟩,ps,as,bd,D⟩ i) i := by
  intro H args K h X vals hH hr ⟨hF,hRX⟩ hd s h1 h2 N hN
  subst hH
  generalize hr0 : (⟨.ready,none,f0,⟨tmps⟩,ps,as,bd,D⟩ : Loop) = r0 at h
  unfold rndS at h
  dsimp only at h
  split at h
  · rename_i r hc
    obtain ⟨hrr,h⟩ := h
    subst hrr
    obtain ⟨hb,h⟩ := bif_true h
    rw [forceL_eq force_eq] at h
    obtain ⟨hb,hpm⟩ := and_tt hb
    obtain ⟨hb,hps⟩ := and_tt hb
    have hi := conAt_get hc (by simp)
    obtain ⟨M,e1,ht,hlt⟩ := hr.ok i _ _ hi hN
    cases e1
    have hla : vals.length = ps.toList.length := by
      rw [hd.len,← lenL_eq]; exact beq_nat hb
    let p' : Par U := { p with m := lenH X.H }
    have hRT : ∀ X' s',HRel p.S X' → X'.t = s'.t → X'.n = s'.next → Tr (lenH X.H) X s X' s' → R X' := fun X' s' a1 a2 a3 a4 => by
      rw [lenH_eq] at a4
      obtain ⟨_,_,_,st,_⟩ := Tr.end hr h1 h2 a4 a2 a3 a1
      exact hC.1 _ _ st.later hRX
    have P' : ParR T p' R X s := ⟨ok,sz,hC,hI,hRT⟩
    have hRl : Rl p'.S p'.nt [] X (setF ps.toList args F) ⟨setMany tmps ps.toList vals,[]⟩ s := ⟨h1.symm,h2.symm,hr,setF_ok (by rw [hlen]; exact hps) hd hF,by rw [setMany_len]; exact hlen,rfl,.nil,fun _ h => by cases h⟩
    have hT0 : Tr p'.m X s X s := by show Tr (lenH X.H) X s X s; rw [lenH_eq]; exact Tr.refl hr s
    have hil : i < lenH X.H := by rw [lenH_eq]; exact (List.getElem?_eq_some_iff.1 hi).1
    have nm : ∀ {Y : Env U} {s' : St},Tr p'.m X s Y s' → Y.ns[i]? = some (some N) := fun hT => by
      obtain ⟨N',_,_,a1,a2,_⟩ := hT.ids i hil
      rw [hN] at a1; cases a1; exact a2
    have lk : ∀ {Y : Env U} {s' : St} {st : LoopState} {pd : Option Code},HRel p.S Y → Y.t = s'.t → Y.H[i]? = some (.loop r st pd) → Y.ns[i]? = some (some N) → s'.t.get N = some (.obj (.loop { r with state := st,pending := pd })) := fun hy ht' hy1 hy2 => by
      obtain ⟨M,e1,ht,hlt⟩ := hy.ok i _ _ hy1 hy2
      cases e1; rw [← ht']; exact ht
    subst hr0
    let r9 : Loop := ⟨.ready,none,f0,⟨tmps⟩,ps,as,bd,D⟩
    refine EndsYield.of (r := r9) (by rw [h1,ht]) rfl hla ?_
    refine (iha P' (cx := ⟨f0,some N⟩) (.inr hna) hRl hT0 h).mono fun e fr s1 ⟨dq1,F1,Y,k1,k2,k3,k4,k5⟩ => ?_
    have := k5 hna; subst this
    cases e with
    | exit _ => exact k1.elim
    | ret => exact k1.elim
    | normal =>
      dsimp only at k1
      split at k1
      · rename_i r1 hc1
        obtain ⟨hrr,k1⟩ := k1
        subst hrr
        have hi1 := conAt_get hc1 (by simp)
        have hN1 := nm k3
        have ht1 := lk k2.rel k2.t hi1 hN1
        refine ⟨rfl,ht1,?_⟩
        have st1 := Step.loopTo k2.rel k2.t.symm k2.n.symm hi1 hN1 (r' := { r9 with state := .busy }) (c' := .loop r9 .busy none) (.inr ⟨.busy,none,rfl,rfl⟩)
        rw [setC_eq] at k1
        have hRl1 : Rl p'.S p'.nt [] ⟨Y.wb,Y.ns,Y.H.set i (.loop r9 .busy none),(setL s1 N { r9 with state := .busy }).t,(setL s1 N { r9 with state := .busy }).next⟩ F1 fr (setL s1 N { r9 with state := .busy }) := ⟨st1.t,st1.n,st1.rel,k2.frm.later st1.later,k2.len,k2.dfs,.nil,fun _ h => by cases h⟩
        refine (ihb P' (cx := ⟨f0,some N⟩) (.inr hnb) hRl1 (k3.step st1.w) k1).mono fun e2 fr2 s2 ⟨dq2,F2,Z,g1,g2,g3,g4,g5⟩ => ?_
        have := g5 hnb; subst this
        dsimp only at g1
        split at g1
        · rename_i r2 hc2
          obtain ⟨hrr,g1⟩ := g1
          subst hrr
          have hi2 := conAt_get hc2 (by simp)
          have hN2 := nm g3
          have ht2 := lk g2.rel g2.t hi2 hN2
          refine ⟨g2.dfs,ht2,?_⟩
          have st2 := Step.loopTo g2.rel g2.t.symm g2.n.symm hi2 hN2 (r' := afterRound r9 e2) (c' := .loop r9 (stOf e2) (jumpOf e2)) (.inr ⟨stOf e2,jumpOf e2,rfl,by unfold afterRound; cases e2 <;> rfl⟩)
          have hT2 := g3.step st2.w
          rw [setC_eq] at g1
          have hv : (jumpOf e2).isNone = exN e2 := by cases e2 <;> rfl
          have hT3 := hT2
          rw [show p'.m = X.H.length from lenH_eq _] at hT3
          obtain ⟨d,m1,m2,m3⟩ := hT3.mods
          obtain ⟨ns',d',q1,q2,_⟩ := Tr.end hr h1 h2 hT3 st2.t st2.n st2.rel
          refine ⟨.bool (exN e2),Z.H.set i (.loop r9 (stOf e2) (jumpOf e2)),ns',d,g1,by rw [hv]; exact .bool .nil,?_⟩
          rw [← q1]
          exact ⟨q2.wb,q2.t,q2.n,q2.rel,q2.later,q2.next,q2.live,m1,m2,m3,q2.ns⟩
        · exact g1.elim
      · exact k1.elim
  · exact h.elim
theorem range_sound {p : Par U} {R : Env U → Prop} {X0 : Env U} {s0 : St} (P : ParR T p R X0 s0) {f : Operand} {ps : Array Tmp} {as bd : Code} (iha : WOk U T as) (ihb : WOk U T bd) {f0 : FuncId} {dq : List Nat} {X : Env U} {F : Frm U} {fr : Fr} {s : St} {K : Ex → Frm U → Hp U → Prop} (hR : Rl p.S p.nt dq X F fr s) (hT : Tr p.m X0 s0 X s)
    (h : wRange f ps as bd (fun p => wp p as) (fun p => wp p bd) p F X.H K) : Ev.Ends T ⟨f0,none⟩ (.rangeFunc f ps as bd) fr s (CodePost p.S p.nt dq p.m X0 s0 K false) := by
  have hf := evo_den hR.frm f
  unfold wRange at h
  split at h
  · rename_i g a c he
    rw [he] at hf
    obtain ⟨as',cs',hw,d1,d2⟩ := func_inv hf
    split at h
    · rename_i it hit
      obtain ⟨hb,h⟩ := bif_true h
      obtain ⟨hb,hg⟩ := and_tt hb
      obtain ⟨hna,hnb⟩ := and_tt hb
      refine rangeFn hw fun d L hd hL s1 n1 m1 g1 gd gL => ?_
      generalize hr0 : (⟨.ready,none,f0,⟨fr.tmps⟩,ps,as,bd,d⟩ : Loop) = r0 at gL
      have h := h r0
      have hn := hR.n
      have e1 := Step.ext hR.rel hR.t.symm hR.n.symm (s' := ⟨s1.t,s.next + 1,s.mods⟩) (by show s.next ≤ s.next + 1; omega) rfl g1
      have e2 := HRel.lay (X := ⟨X.wb,X.ns ++ [],X.H,s1.t,s.next + 1⟩) e1.rel (c := .loop r0 .ready none) (t' := s1.t) (fun _ _ => rfl) (fun X' hl ht hn' _ => ⟨_,rfl,by
        rw [ht,← hL,gL,← hr0],by rw [hn']; exact Nat.lt_succ_self _⟩)
      let X1 : Env U := ⟨X.wb,(X.ns ++ []) ++ [some (s.next + 1)],X.H ++ [.loop r0 .ready none],s1.t,s.next + 1 + 1⟩
      have hl1 : Later X X1 := e1.later.trans e2.1
      have hrel1 : HRel p.S X1 := e2.2
      have st1 : Step p.S X s X1 s1 [] := by
        refine ⟨rfl,rfl,by rw [n1],hrel1,hl1,by rw [n1]; omega,fun N hN hl => ?_,m1,(fun _ h => by cases h),fun N hN _ => g1 N hN,⟨[some (s.next + 1)],by show _ = (X.ns ++ []) ++ _; rw [List.append_nil]⟩⟩
        obtain ⟨i,ci,k1,k2,k3⟩ := hl
        have k1 : ((X.ns ++ []) ++ [some (s.next + 1)])[i]? = some (some N) := k1
        have k2 : (X.H ++ [.loop r0 .ready none])[i]? = some ci := k2
        rw [List.append_nil] at k1
        by_cases hi : i < X.H.length
        · rw [List.getElem?_append_left (by rw [hR.rel.len]; exact hi)] at k1
          rw [List.getElem?_append_left hi] at k2
          exact ⟨i,ci,k1,k2,k3⟩
        · rw [List.getElem?_append_right (by rw [hR.rel.len]; omega)] at k1
          have : i - X.ns.length = 0 := by
            have := (List.getElem?_eq_some_iff.1 k1).1
            simp at this; exact this
          rw [this] at k1
          simp at k1
          omega
      have app : ∀ {l m : List (SV U)} {vs ws : List Value},DenL p.S X1 l vs → DenL p.S X1 m ws → DenL p.S X1 (l ++ m) (vs ++ ws) := by
        intro l
        induction l with
        | nil => intro m vs ws h h'; cases h; exact h'
        | cons v l ih =>
          intro m vs ws h h'
          obtain ⟨w,us,rfl,g1,g2⟩ := h.uncons
          exact DenL.cons g1 (ih g2 h')
      have hnm : X1.ns[lenH X.H]? = some (some L) := by
        show ((X.ns ++ []) ++ [some (s.next + 1)])[lenH X.H]? = _
        rw [List.append_nil,lenH_eq,← hR.rel.len,List.getElem?_append_right (Nat.le_refl _),Nat.sub_self,hL]; rfl
      have hcall := P.I g it hit (rndS p ps.toList (fun p => wp p as) (fun p => wp p bd) F r0 (lenH X.H)) (lenH X.H) (fun X => FrmOk p.S X F fr.tmps ∧ R X) rfl (fun X X' hl hx => ⟨hx.1.later hl,P.C.1 _ _ hl hx.2⟩)
        (by rw [← hr0]; exact rnd_sound P.ok P.sz P.C P.I iha ihb hna hnb hR.len) _ _ _ h X1 (as' ++ (.func (.yield L) #[] #[] :: cs')) (by rw [snoc_eq]) hrel1 ⟨hR.frm.later hl1,P.C.1 _ _ hl1 (P.RT _ _ hR.rel hR.t hR.n hT)⟩ (app (d1.later hl1) (DenL.cons (.yld hnm .nil) (d2.later hl1))) s1 rfl n1
      have hargs : (⟨as'⟩ : Array Value).toList ++ [.func (.yield L) #[] #[]] ++ (⟨cs'⟩ : Array Value).toList = as' ++ (.func (.yield L) #[] #[] :: cs') := by simp
      rw [hargs]
      refine hcall.mono fun v s2 ⟨sv,H',ns',d',hK,hden,hst⟩ => ?_
      generalize hY : (⟨X1.wb,X1.ns ++ ns',H',s2.t,s2.next⟩ : Env U) = Y at hst
      have yH : Y.H = H' := by rw [← hY]
      have yN : Y.ns[lenH X.H]? = some (some L) := hst.later.ns _ _ hnm
      unfold afterR at hK
      split at hK
      · exact hK.elim
      · rename_i r st pd hnb' hc
        obtain ⟨hrr,hK⟩ := hK
        have hi : Y.H[lenH X.H]? = some (.loop r st pd) := by rw [yH]; exact conAt_get hc (by simp)
        obtain ⟨M,e3,ht,hlt⟩ := hst.rel.ok _ _ _ hi yN
        cases e3
        have ht2 : s2.t.get L = some (.obj (.loop { r with state := st,pending := pd })) := by rw [← hst.t]; exact ht
        refine ⟨_,ht2,fun e => hnb' e,?_⟩
        have fin : ∀ e,K e F (setC H' (lenH X.H) .dead) → CodePost p.S p.nt dq p.m X0 s0 K false e ⟨fr.tmps,d :: fr.defers⟩ (setL s2 L { ({ r with state := st,pending := pd } : Loop) with state := .exhausted }) := by
          intro e hk
          have st3 := Step.loopTo hst.rel hst.t.symm hst.n.symm hi yN (r' := { ({ r with state := st,pending := pd } : Loop) with state := .exhausted }) (c' := .dead) (.inl rfl)
          rw [setC_eq,← yH] at hk
          have dlt : ∀ D,D < X.n → D ≠ d := fun D hD e => by rw [e,hd,hn] at hD; exact Nat.lt_irrefl _ hD
          have base : ∀ D ∈ d :: dq,X1.t.get D = some (.obj (.deferred (some []))) ∧ D < X1.n ∧ ¬ X1.fb D := by
            intro D hD
            rcases List.mem_cons.1 hD with rfl | hD
            · refine ⟨gd,by show D < s.next + 1 + 1; omega,fun hfb => ?_⟩
              rcases hfb with hw | ⟨j,cj,k1,k2,k3⟩
              · exact dlt D (hR.rel.wbl D hw) rfl
              · have k1 : ((X.ns ++ []) ++ [some (s.next + 1)])[j]? = some (some D) := k1
                rw [List.append_nil] at k1
                by_cases hj : j < X.ns.length
                · rw [List.getElem?_append_left hj] at k1
                  exact dlt D (hR.rel.lt j D k1).1 rfl
                · rw [List.getElem?_append_right (by omega)] at k1
                  have : j - X.ns.length = 0 := by
                    have := (List.getElem?_eq_some_iff.1 k1).1
                    simp at this; exact this
                  rw [this] at k1
                  simp at k1
                  omega
            · exact dq_later hl1 hR.dqs D hD
          refine ⟨d :: dq,F,_,hk,⟨st3.t,st3.n,st3.rel,((hR.frm.later hl1).later hst.later).later st3.later,hR.len,by show d :: fr.defers = _; rw [hR.dfs],List.nodup_cons.2 ⟨fun h => dlt d (hR.dqs d h).2.1 rfl,hR.dqn⟩,dq_later st3.later (dq_later hst.later base)⟩,((hT.step st1.w).step hst.w).step st3.w,fun D hD => ?_,fun h => by cases h⟩
          rcases List.mem_cons.1 hD with rfl | hD
          · exact .inr (by rw [hd]; exact hT.next)
          · exact .inl hD
        dsimp only
        cases pd with
        | none => exact fin .normal hK
        | some q => cases q with
          | ret => exact fin .ret hK
          | exit id => exact fin (.exit id) hK
          | _ => exact hK.elim
      · exact hK.elim
    · exact h.elim
  · exact h.elim
theorem wp_sound : ∀ (c : Code) {p : Par U} {R : Env U → Prop} {X0 : Env U} {s0 : St} (P : ParR T p R X0 s0) {cx : Ctx} (hcx : cx.round = none ∨ noR c = true) {dq : List Nat} {X : Env U} {F : Frm U} {fr : Fr} {s : St} {K : Ex → Frm U → Hp U → Prop},Rl p.S p.nt dq X F fr s → Tr p.m X0 s0 X s → wp p c F X.H K → Ev.Ends T cx c fr s (CodePost p.S p.nt dq p.m X0 s0 K (noR c)) := by
  intro c
  induction c with
  | skip => intro p R X0 s0 P cx hcx dq X F fr s K; exact fun hR hT h => Ev.Ends.skip ⟨_,_,_,h,hR,hT,fun _ h => .inl h,fun _ => rfl⟩
  | region id ops draw =>
    intro p R X0 s0 P cx hcx dq X F fr s K hR hT h
    cases draw with
    | true =>
      obtain ⟨k,fr',s',e,F',X',k1,k2,k3⟩ := draw_sound P.ok P.sz P.C (P.RT _ _ hR.rel hR.t hR.n hT) hR hT (D := []) (ds := []) trivial h
      exact Ev.Ends.draw ⟨k,fr',s',e,dq,F',X',k1,k2,k3,fun _ h => .inl h,fun _ => rfl⟩
    | false =>
      obtain ⟨k,fr',s',e,F',X',k1,k2,k3⟩ := ops_sound P hR hT h
      exact Ev.Ends.region ⟨k,fr',s',e,dq,F',X',k1,k2,k3,fun _ h => .inl h,fun _ => rfl⟩
  | seq a b iha ihb =>
    intro p R X0 s0 P cx hcx dq X F fr s K hR hT h
    refine Ev.Ends.seq ((iha P (hcx.imp id fun h => (and_tt h).1) hR hT h).mono fun e fr s ⟨dq1,F,X,k1,k2,k3,k4,k5⟩ => ?_)
    have hl : noR (.seq a b) = true → dq1 = dq := fun hq => k5 (and_tt hq).1
    cases e with
    | normal =>
      refine (ihb P (hcx.imp id fun h => (and_tt h).2) k2 k3 k1).mono fun e fr s ⟨dq2,F,X,g1,g2,g3,g4,g5⟩ => ⟨dq2,F,X,g1,g2,g3,fun D hD => ?_,fun hq => (g5 (and_tt hq).2).trans (hl hq)⟩
      rcases g4 D hD with h | h
      · exact k4 D h
      · exact .inr h
    | exit i => exact ⟨dq1,F,X,k1,k2,k3,k4,hl⟩
    | ret => exact ⟨dq1,F,X,k1,k2,k3,k4,hl⟩
  | cond c a b iha ihb =>
    intro p R X0 s0 P cx hcx dq X F fr s K hR hT h
    have hc := evo_den hR.frm c
    have h : (match evo F c with
      | .bool q => (q = true → wp p a F X.H K) ∧ (q = false → wp p b F X.H K)
      | _ => False) := h
    cases hv : evo F c with
    | bool q =>
      rw [hv] at h hc
      have hq := bool_inv hc
      cases q with
      | true => exact Ev.Ends.condT hq ((iha P (hcx.imp id fun h => (and_tt h).1) hR hT (h.1 rfl)).mono fun e fr s ⟨dq2,F,X,g1,g2,g3,g4,g5⟩ => ⟨dq2,F,X,g1,g2,g3,g4,fun hq => g5 (and_tt hq).1⟩)
      | false => exact Ev.Ends.condF hq ((ihb P (hcx.imp id fun h => (and_tt h).2) hR hT (h.2 rfl)).mono fun e fr s ⟨dq2,F,X,g1,g2,g3,g4,g5⟩ => ⟨dq2,F,X,g1,g2,g3,g4,fun hq => g5 (and_tt hq).2⟩)
    | _ => rw [hv] at h; exact h.elim
  | block i b ih =>
    intro p R X0 s0 P cx hcx dq X F fr s K hR hT h
    refine W.block ((ih P hcx hR hT h).mono fun e fr s ⟨dq1,F,X,k1,k2,k3,k4⟩ => ?_)
    cases e with
    | normal => exact ⟨dq1,F,X,k1,k2,k3,k4⟩
    | exit j =>
      have k1 : bif Nat.beq j i then K .normal F X.H else K (.exit j) F X.H := k1
      cases hb : Nat.beq j i with
      | true => rw [hb] at k1; exact W.outT (beq_nat hb) ⟨dq1,F,X,k1,k2,k3,k4⟩
      | false =>
        rw [hb] at k1
        exact W.outF (fun e => by rw [e,Nat.beq_refl] at hb; cases hb) ⟨dq1,F,X,k1,k2,k3,k4⟩
    | ret => exact ⟨dq1,F,X,k1,k2,k3,k4⟩
  | loop b ih =>
    intro p R X0 s0 P cx hcx dq X F fr s K hR hT h
    obtain ⟨Y,G,I,μ,y0,h1,h2,h3⟩ := h
    obtain ⟨X1,e1,hR1,hT1⟩ := covers_sound P.ok hR hT h2
    refine Ev.Ends.loopInv (fun n fr s => ∃ y dq1 X,μ y = n ∧ I y ∧ X.H = (G y).2 ∧ Rl p.S p.nt dq1 X (G y).1 fr s ∧ Tr p.m X0 s0 X s ∧ (∀ D ∈ dq1,D ∈ dq ∨ s0.next ≤ D) ∧ (noR (.loop b) = true → dq1 = dq)) ?_ _ _ _ ⟨y0,dq,X1,rfl,h1,e1,hR1,hT1,fun _ h => .inl h,fun _ => rfl⟩
    rintro n fr s ⟨y,dq1,X,rfl,hy,eH,hR,hT,q1,q2⟩
    have hw := h3 y hy
    rw [← eH] at hw
    refine (ih P hcx hR hT hw).mono fun e fr s ⟨dq2,F,X,k1,k2,k3,k4,k5⟩ => ?_
    have q3 : ∀ D ∈ dq2,D ∈ dq ∨ s0.next ≤ D := fun D hD => by
      rcases k4 D hD with h | h
      · exact q1 D h
      · exact .inr h
    have q4 : noR (.loop b) = true → dq2 = dq := fun hq => (k5 hq).trans (q2 hq)
    cases e with
    | normal =>
      obtain ⟨y',g1,g2,g3⟩ := k1
      obtain ⟨X2,e2,hR2,hT2⟩ := covers_sound P.ok k2 k3 g3
      exact ⟨μ y',g1,y',dq2,X2,rfl,g2,e2,hR2,hT2,q3,q4⟩
    | exit i => exact ⟨dq2,F,X,k1,k2,k3,q3,q4⟩
    | ret => exact ⟨dq2,F,X,k1,k2,k3,q3,q4⟩
  | exit i => intro p R X0 s0 P cx hcx dq X F fr s K; exact fun hR hT h => Ev.Ends.exit ⟨_,_,_,h,hR,hT,fun _ h => .inl h,fun _ => rfl⟩
  | ret => intro p R X0 s0 P cx hcx dq X F fr s K; exact fun hR hT h => Ev.Ends.ret ⟨_,_,_,h,hR,hT,fun _ h => .inl h,fun _ => rfl⟩
  | rangeFunc f ps as bd iha ihb =>
    intro p R X0 s0 P cx hcx dq X F fr s K hR hT h
    have hc : cx.round = none := hcx.resolve_right fun h => by cases h
    obtain ⟨f0,r⟩ := cx
    have hc : r = none := hc
    subst hc
    exact range_sound P (fun {p R X0 s0} P {cx} hcx {dq X F fr s K} => iha P hcx) (fun {p R X0 s0} P {cx} hcx {dq X F fr s K} => ihb P hcx) hR hT h
  | _ => intro p R X0 s0 P cx hcx dq X F fr s K; exact fun hR hT h => h.elim
theorem resS_sound (ok : SysOk T S) {X : Env U} (hr : HRel S X) {F : Frm U} {tmps : List Value} (hF : FrmOk S X F tmps) : ∀ {rs : List ResultVar} {K : List (SV U) → Prop},resS S F X.H rs K → ∃ l,∃ vals : List Value,K l ∧ DenL S X l vals ∧ ∀ s : St,s.t = X.t → Ev.results T tmps rs s = some (vals,s)
  | [],K,h => ⟨[],[],h,.nil,fun _ _ => rfl⟩
  | .tmp t :: rs,K,h => by
    unfold resS at h
    rw [force_eq] at h
    obtain ⟨l,vals,h1,h2,h3⟩ := resS_sound ok hr hF h
    exact ⟨_,_,h1,DenL.cons (hF t) h2,fun s hs => by unfold Ev.results; simp only [bnd,h3 s hs,ret]⟩
  | .cell a t :: rs,K,h => by
    unfold resS at h
    split at h
    · rename_i i o hg
      have hd := hF a
      rw [hg] at hd
      split at h
      · rename_i fz e vs hcon
        generalize hw : tmps.getD a Go.undef = w at hd
        cases hd with
        | ptr hN _ =>
          obtain ⟨M,ws,q0,q1,q2,q3,q4⟩ := hr.ok i _ _ (conAt_get hcon (by simp)) hN
          cases q0
          obtain ⟨sv,v,k1,k2,k3⟩ := loadVar_sound ok h (b := 0) (slice_all (ws := ws)) q2
          rw [force_eq] at k1
          obtain ⟨l,vals,h1,h2,h3⟩ := resS_sound ok hr hF k1
          refine ⟨_,_,h1,DenL.cons k2 h2,fun s hs => ?_⟩
          have hl := k3 _ e 0 s (by rw [hs]; exact q1)
          rw [Nat.zero_add] at hl
          unfold Ev.results
          simp only [hw,bnd,hl,h3 s hs,ret]
      · exact h.elim
    · exact h.elim
theorem valS_den {X : Env U} {l : List (SV U)} {vs : List Value} (d : DenL S X l vs) : Den S X (valS l) (valOf vs) := by
  unfold valS valOf
  split
  · obtain ⟨w,ws,rfl,d1,d2⟩ := d.uncons
    cases d2
    exact d1
  · rename_i hl
    have hv : ∀ v,vs ≠ [v] := by
      intro v e; subst e
      have := d.len
      match l,this,hl with
      | [a],_,hl => exact hl a rfl
    split
    · rename_i v; exact absurd rfl (hv v)
    · exact .tup d .nil
def frm0 : Nat → List (SV U) → Frm U
  | _,[] => []
  | i,v :: l => (i,v) :: frm0 (Nat.succ i) l
theorem frm0_get {X : Env U} : ∀ {l : List (SV U)} {vs : List Value} {i t : Nat},DenL S X l vs → (t < i → get (frm0 i l) t = .undef) ∧ (i ≤ t → Den S X (get (frm0 i l) t) (vs.getD (t - i) Go.undef))
  | [],vs,i,t,d => ⟨fun _ => rfl,fun _ => .undef .nil⟩
  | v :: l,vs,i,t,d => by
    obtain ⟨w,ws,rfl,d1,d2⟩ := d.uncons
    obtain ⟨h1,h2⟩ := frm0_get (i := Nat.succ i) (t := t) d2
    unfold frm0 get
    cases hb : Nat.beq t i with
    | true =>
      have := beq_nat hb; subst this
      exact ⟨fun h => absurd h (Nat.lt_irrefl _),fun _ => by simp; exact d1⟩
    | false =>
      have hne : t ≠ i := by intro e; subst e; rw [Nat.beq_refl] at hb; cases hb
      refine ⟨fun h => h1 (Nat.lt_succ_of_lt h),fun h => ?_⟩
      have := h2 (Nat.succ_le_of_lt (Nat.lt_of_le_of_ne h (Ne.symm hne)))
      have e : t - i = (t - Nat.succ i) + 1 := by omega
      rw [e]; simpa using this
theorem frm0_ok {X : Env U} {l : List (SV U)} {vs : List Value} (d : DenL S X l vs) (n : Nat) : FrmOk S X (frm0 0 l) (vs ++ List.replicate n Go.undef) := by
  intro t
  by_cases ht : t < vs.length
  · have := (frm0_get (i := 0) (t := t) d).2 (Nat.zero_le _)
    rw [List.getD_eq_getElem?_getD,List.getElem?_append_left ht,← List.getD_eq_getElem?_getD]; exact this
  · have h0 : ∀ {l : List (SV U)} {i : Nat},i + l.length ≤ t → get (frm0 i l) t = .undef := by
      intro l
      induction l with
      | nil => intro i _; rfl
      | cons v l ih =>
        intro i h
        unfold frm0 get
        have : Nat.beq t i = false := by
          cases hb : Nat.beq t i with
          | false => rfl
          | true => have := beq_nat hb; simp at h; omega
        rw [this]; exact ih (by simp at h; omega)
    rw [h0 (by rw [← d.len]; omega)]; exact .undef .nil
theorem below1_den (ok : SysOk T S) {X Y : Env U} (ht : Y.t = X.t) (hn : Y.n = X.n) (hf : ∀ N,Y.fb N → X.fb N) {v : SV U} {w : Value} (h : below1 0 v = true) (d : Den S X v w) : Den S Y v w := by
  have hm : idf v = true → Den S Y v w := fun hi => idf_move (X := X) ok ht hn hf d fun u hu => by rw [List.mem_singleton] at hu; subst hu; exact hi
  cases v <;> first
    | exact hm rfl
    | (cases h; done)
    | (exact .undef .nil)
    | (cases d; exact .skip .nil)
theorem belows_den {X Y : Env U} {l : List (SV U)} {vs : List Value} (h : ∀ v ∈ l,∀ w,Den S X v w → Den S Y v w) (d : DenL S X l vs) : DenL S Y l vs := plain1s_den h d
theorem below_den (ok : SysOk T S) {X Y : Env U} (ht : Y.t = X.t) (hn : Y.n = X.n) (hf : ∀ N,Y.fb N → X.fb N) {v : SV U} {w : Value} (h : below 0 v = true) (d : Den S X v w) : Den S Y v w := by
  have b1 := fun {v : SV U} {w : Value} (h : below1 0 v = true) (d : Den S X v w) => below1_den (T := T) ok ht hn hf h d
  cases v with
  | agg l =>
    obtain ⟨vs,rfl,d'⟩ := agg_inv d
    exact .agg (belows_den (fun v hv w hw => b1 (List.all_eq_true.1 h v hv) hw) d') .nil
  | tup l =>
    obtain ⟨vs,rfl,d'⟩ := tup_inv d
    refine .tup (belows_den (fun v hv w hw => ?_) d') .nil
    have h1 := List.all_eq_true.1 h v hv
    cases v with
    | agg l =>
      obtain ⟨vs,rfl,d'⟩ := agg_inv hw
      exact .agg (belows_den (fun v hv w hw => b1 (List.all_eq_true.1 h1 v hv) hw) d') .nil
    | iface t x => obtain ⟨u,rfl,d2⟩ := iface_inv hw; exact .iface (b1 h1 d2) .nil
    | _ => exact b1 h1 hw
  | func f a c =>
    obtain ⟨as,cs,rfl,d1,d2⟩ := func_inv d
    obtain ⟨h1,h2⟩ := and_tt h
    exact .func (belows_den (fun v hv w hw => b1 (List.all_eq_true.1 h1 v hv) hw) d1) (belows_den (fun v hv w hw => b1 (List.all_eq_true.1 h2 v hv) hw) d2) .nil
  | iface t x => obtain ⟨u,rfl,d2⟩ := iface_inv d; exact .iface (b1 h d2) .nil
  | _ => exact b1 h d
theorem resV_sound {X : Env U} (hr : HRel S X) {v : SV U} {w : Value} {K : SV U → Hp U → Prop} (h : resV X.H v K) (d : Den S X v w) : ∃ v' H',K v' H' ∧ Ghost S X H' ∧ Den S (X.setH H') v' w := by
  unfold resV at h
  split at h
  · obtain ⟨vs,rfl,d'⟩ := tup_inv d
    obtain ⟨l',H',g1,g2,g3,g4,g5⟩ := resL_sound hr h d'
    exact ⟨_,H',g1,⟨g3,g4,g5⟩,.tup g2 .nil⟩
  · obtain ⟨vs,rfl,d'⟩ := agg_inv d
    obtain ⟨l',H',g1,g2,g3,g4,g5⟩ := resL_sound hr h d'
    exact ⟨_,H',g1,⟨g3,g4,g5⟩,.agg g2 .nil⟩
  · obtain ⟨l',H',g1,g2,g3,g4,g5⟩ := resL_sound hr h d
    split at g1
    · exact ⟨_,H',g1,⟨g3,g4,g5⟩,g2⟩
    · exact g1.elim
theorem finish_of {nt : Nat} {body : Code} {rs : List ResultVar} {vals : List Value} {e : Ex} {fr : Fr} {s : St} {s2 : St} (he : isExit e = false) (hd : takeDefers fr.defers s = some ((),s2)) (hres : Ev.results T fr.tmps rs s2 = some (vals,s2)) : finishCall T ⟨nt,body,rs⟩ e fr s = some (valOf vals,s2) := by
  unfold finishCall
  cases e with
  | exit _ => cases he
  | _ => simp only [hd,bnd,ret,hres]
theorem DenL.objs {X X' : Env U} (hns : X'.ns = X.ns) (hH : X'.H = X.H) (hn : X'.n = X.n) (hf : ∀ N,X'.fb N → X.fb N) (hm : ∀ N ws e hi,X.t.get N = some (.cells ws e hi) → X'.t.get N = X.t.get N) {l : List (SV U)} {vs : List Value} (d : DenL S X l vs) : DenL S X' l vs := by
  induction d with
  | nil => exact .nil
  | undef _ ih => exact .undef ih
  | skip _ ih => exact .skip ih
  | int _ ih => exact .int ih
  | bool _ ih => exact .bool ih
  | str _ ih => exact .str ih
  | nilP _ ih => exact .nilP ih
  | nilS _ ih => exact .nilS ih
  | nilF _ ih => exact .nilF ih
  | nilI _ ih => exact .nilI ih
  | nilM _ ih => exact .nilM ih
  | agg _ _ i1 i2 => exact .agg i1 i2
  | tup _ _ i1 i2 => exact .tup i1 i2
  | ptr e _ ih => exact .ptr (by rw [hns]; exact e) ih
  | sl h9 ha hx _ hs _ i1 i2 => exact .sl h9 (fun hd => by obtain ⟨a,b,c,d⟩ := ha hd; exact ⟨a,(hm _ _ _ _ b).trans b,by rw [hn]; exact c,fun h => d (hf _ h)⟩) hx i1 hs i2
  | ol e _ ih => exact .ol (by unfold olDen at e ⊢; rw [hH,hns]; exact e) ih
  | osl e _ ih => exact .osl (by unfold oslDen at e ⊢; rw [hH,hns]; exact e) ih
  | olp e _ ih => exact .olp (by unfold olpDen at e ⊢; rw [hH,hns]; exact e) ih
  | rp a b c e _ _ i1 i2 => exact .rp ((hm _ _ _ _ a).trans a) (by rw [hn]; exact b) (fun h => c (hf _ h)) e i1 i2
  | func _ _ _ i1 i2 i3 => exact .func i1 i2 i3
  | yld e _ ih => exact .yld (by rw [hns]; exact e) ih
  | iface _ _ i1 i2 => exact .iface i1 i2
theorem done_of {nt m : Nat} {X0 : Env U} {s0 : St} : ∀ {dq : List Nat} {Y : Env U} {F : Frm U} {fr : Fr} {s : St},Rl S nt dq Y F fr s → Tr m X0 s0 Y s → (∀ D ∈ dq,s0.next ≤ D) → ∃ s2 Y',Y'.H = Y.H ∧ takeDefers dq s = some ((),s2) ∧ Rl S nt [] Y' F ⟨fr.tmps,[]⟩ s2 ∧ Tr m X0 s0 Y' s2
  | [],Y,F,fr,s,hR,hT,_ => ⟨s,Y,rfl,rfl,⟨hR.t,hR.n,hR.rel,hR.frm,hR.len,rfl,.nil,fun _ h => by cases h⟩,hT⟩
  | D :: dq,Y,F,fr,s,hR,hT,hge => by
    obtain ⟨hD,hDn,hDf⟩ := hR.dqs D List.mem_cons_self
    obtain ⟨hnd,hnod⟩ := List.nodup_cons.1 hR.dqn
    rw [hR.t] at hD
    let s' : St := ⟨s.t.set D (some (.obj (.deferred none))),s.next,D :: s.mods⟩
    let Y' : Env U := ⟨Y.wb,Y.ns,Y.H,s'.t,s'.next⟩
    have hb : setB D (.obj (.deferred none)) s = some ((),s') := by unfold setB; rw [hD]
    have hne : ∀ N,N ≠ D → Y'.t.get N = Y.t.get N := fun N h => by rw [hR.t]; exact Tree.get_set_ne _ _ h
    have hm : ∀ N ws e hi,Y.t.get N = some (.cells ws e hi) → Y'.t.get N = Y.t.get N := fun N ws e hi h => hne N fun e' => by
      rw [e',hR.t,hD] at h; cases h
    have hn : Y'.n = Y.n := hR.n.symm
    have hf : ∀ N,Y'.fb N → Y.fb N := fun N h => h
    have hrel : HRel S Y' := by
      refine ⟨hR.rel.len,fun i c N k1 k2 => ?_,hR.rel.inj,fun i N k => by rw [hn]; exact hR.rel.lt i N k,fun N hN => by rw [hn]; exact hR.rel.wbl N hN⟩
      have hc := hR.rel.ok i c N k1 k2
      cases c with
      | dead => trivial
      | loop r st pd =>
        obtain ⟨M,h1,h2,h3⟩ := hc
        exact ⟨M,h1,(hne M fun e' => by rw [e',hR.t,hD] at h2; cases h2).trans h2,by rw [hn]; exact h3⟩
      | siter x p =>
        obtain ⟨M,h1,h2,h3⟩ := hc
        exact ⟨M,h1,(hne M fun e' => by rw [e',hR.t,hD] at h2; cases h2).trans h2,by rw [hn]; exact h3⟩
      | cells fz e vs =>
        obtain ⟨M,ws,h1,h2,h3,h4,h5⟩ := hc
        exact ⟨M,ws,h1,(hm _ _ _ _ h2).trans h2,h3.objs (X := Y) (X' := Y') rfl rfl hn hf hm,by rw [hn]; exact h4,h5⟩
      | list fz ex e c l =>
        obtain ⟨h0,hc⟩ := hc
        refine ⟨h0,?_⟩
        cases N with
        | none => exact hc
        | some M =>
          obtain ⟨ws,cs,h2,h3,h4,h5,h6,h7⟩ := hc
          exact ⟨ws,cs,(hm _ _ _ _ h2).trans h2,h3,h4,fun j x hx => (h5 j x hx).objs (X := Y) (X' := Y') rfl rfl hn hf hm,by rw [hn]; exact h6,h7⟩
    have hR' : Rl S nt dq Y' F ⟨fr.tmps,dq⟩ s' := ⟨rfl,rfl,hrel,fun t => (hR.frm t).objs (X := Y) (X' := Y') rfl rfl hn hf hm,hR.len,rfl,hnod,fun E hE => by
      obtain ⟨h1,h2,h3⟩ := hR.dqs E (List.mem_cons_of_mem _ hE)
      exact ⟨(hne E fun e' => hnd (e' ▸ hE)).trans h1,by rw [hn]; exact h2,h3⟩⟩
    have hT' : Tr m X0 s0 Y' s' := by
      obtain ⟨e,m1,m2,m3⟩ := hT.mods
      have hDl := hge D List.mem_cons_self
      refine ⟨hT.wb,hT.next,hT.live,⟨D :: e,by show D :: s.mods = _; rw [m1]; rfl,fun N hN => ?_,fun N hN hne' => ?_⟩,hT.ids⟩
      · rcases List.mem_cons.1 hN with rfl | hN
        · exact ⟨by rw [← hR.n]; exact hDn,fun h => absurd h (Nat.not_lt.2 hDl)⟩
        · exact m2 N hN
      · rw [List.mem_cons,not_or] at hne'
        show (s.t.set D _).get N = _
        rw [Tree.get_set_ne _ _ hne'.1]
        exact m3 N hN hne'.2
    obtain ⟨s2,Z,g1,g2,g3,g4⟩ := done_of hR' hT' fun E hE => hge E (List.mem_cons_of_mem _ hE)
    refine ⟨s2,Z,g1,?_,g3,g4⟩
    unfold takeDefers
    simp only [hD,bnd,hb]
    exact g2
theorem pure_walk {p : Par U} (P : ParOk T p) {f : FuncId} {body : Code} {rs : List ResultVar} (hF : T.fn f = some ⟨p.nt,body,rs⟩) {args : List (SV U)} {K : SV U → Hp U → Prop} (hm : p.m = 0) (hn : args.length ≤ p.nt) (h : wp p body (frm0 0 args) [] (fin p rs K)) {X : Env U} {vals : List Value} (hH : X.H = []) (hr : HRel p.S X) (hd : DenL p.S X args vals) {s : St} (h1 : s.t = X.t) (h2 : s.next = X.n) :
    EndsCall T f vals s fun v s' => ∃ sv,K sv [] ∧ below 0 sv = true ∧ Den p.S ⟨X.wb,[],[],s'.t,s'.next⟩ sv v ∧ s.next ≤ s'.next ∧ s'.mods = s.mods ∧ ∀ N,N < s.next → s'.t.get N = s.t.get N := by
  refine EndsCall.of hF ?_
  have hR : Rl p.S p.nt [] X (frm0 0 args) ⟨vals ++ List.replicate (p.nt - vals.length) Go.undef,[]⟩ s := ⟨h1.symm,h2.symm,hr,frm0_ok hd _,by have := hd.len; simp; omega,rfl,.nil,fun _ h => by cases h⟩
  have hT : Tr p.m X s X s := by rw [hm]; have := Tr.refl hr s; rw [hH] at this; exact this
  rw [← hH] at h
  refine (wp_sound body (P.r X s) (.inl rfl) hR hT h).mono fun e fr s1 ⟨dq1,F,Y1,k1,kR,kT,kq,_⟩ => ?_
  obtain ⟨s2,Y,yH,hfin,k2,k3⟩ := done_of kR kT fun D hD => (kq D hD).resolve_left (by simp)
  rw [← yH] at k1
  have hno : ∀ N,¬ X.liveN N := fun N ⟨i,c,_,hi,_⟩ => by rw [hH] at hi; simp at hi
  have hns : X.ns = [] := List.length_eq_zero_iff.1 (by rw [hr.len,hH]; rfl)
  have he : isExit e = false := by cases e with
    | exit i => exact k1.elim
    | _ => rfl
  have k1 : resS p.S F Y.H rs fun l => resV Y.H (valS l) fun v H => bif below p.m v && Nat.beq p.m 0 then K v [] else False := by
    cases e with
    | exit i => cases he
    | _ => exact k1
  obtain ⟨l,vals',g1,g3,g4⟩ := resS_sound P.ok k2.rel k2.frm k1
  obtain ⟨v,H',q1,q2,q3⟩ := resV_sound k2.rel g1 (valS_den g3)
  obtain ⟨hb,hK⟩ := bif_true q1
  obtain ⟨hb,_⟩ := and_tt hb
  rw [hm] at hb k3
  refine ⟨_,s2,finish_of he (by rw [kR.dfs]; exact hfin) (g4 s2 k2.t.symm),?_⟩
  have hwb : Y.wb = X.wb := k3.wb
  have hZ : HRel p.S (⟨X.wb,X.ns ++ [],[],s2.t,s2.next⟩ : Env U) := by
    rw [hns]
    refine ⟨rfl,fun i c N h => by simp at h,fun i j N h => by simp at h,fun i N h => by simp at h,fun N hN => ?_⟩
    have := k2.rel.wbl N (by rw [hwb]; exact hN)
    rw [k2.n] at this; exact this
  have hTZ : Tr X.H.length X s (⟨X.wb,X.ns ++ [],[],s2.t,s2.next⟩ : Env U) s2 := by
    rw [hH]
    exact ⟨rfl,k3.next,fun N _ ⟨i,c,_,hi,_⟩ => by simp at hi,k3.mods,fun i hi => absurd hi (Nat.not_lt_zero _)⟩
  obtain ⟨ns',d,e1,e2,e3⟩ := Tr.end hr h1 h2 hTZ rfl rfl hZ
  have := e3 hno
  subst this
  refine ⟨v,hK,hb,below_den P.ok (X := Y.setH H') (by show s2.t = Y.t; rw [k2.t]) (by show s2.next = Y.n; rw [k2.n]) (fun N hN => ?_) hb q3,e2.next,e2.mods,fun N hN => e2.old N hN (by simp)⟩
  rcases hN with hN | ⟨i,c,_,hi,_⟩
  · exact .inl (by show Y.wb N; rw [hwb]; exact hN)
  · have hi : ([] : Hp U)[i]? = some c := hi
    simp at hi
theorem belowL_den (ok : SysOk T S) {X Y : Env U} (ht : Y.t = X.t) (hn : Y.n = X.n) (hf : ∀ N,Y.fb N → X.fb N) {l : List (SV U)} {vs : List Value} (h : l.all (below 0) = true) (d : DenL S X l vs) : DenL S Y l vs :=
  belows_den (fun v hv w hw => below_den (T := T) ok ht hn hf (List.all_eq_true.1 h v hv) hw) d
theorem CallOk.pure {p : Par U} (P : ParOk T p) {f : FuncId} {body : Code} {rs : List ResultVar} (hF : T.fn f = some ⟨p.nt,body,rs⟩) {args : List (SV U)} {H : Hp U} {K : SV U → Hp U → Prop} (hm : p.m = 0) (hn : args.length ≤ p.nt) (ha : args.all (below 0) = true) (h : wp p body (frm0 0 args) [] (fin p rs fun v _ => K v H)) {wr : Bool} : CallOk T p.S wr f H args K := by
  intro X vals hH hr hd s h1 h2
  have hfl : ∀ N,X.liveN N → N < X.n := fun N ⟨i,c,k1,_,_⟩ => (hr.lt i N k1).1
  have hX : HRel p.S (⟨X.fb,[],[],X.t,X.n⟩ : Env U) := ⟨rfl,fun i c N h => by simp at h,fun i j N h => by simp at h,fun i N h => by simp at h,fun N hN => by
    rcases hN with hN | hN
    · exact hr.wbl N hN
    · exact hfl N hN⟩
  have hd' : DenL p.S (⟨X.fb,[],[],X.t,X.n⟩ : Env U) args vals := belowL_den P.ok (X := X) (Y := ⟨X.fb,[],[],X.t,X.n⟩) rfl rfl (fun N hN => by
    rcases hN with hN | ⟨i,c,_,hi,_⟩
    · exact hN
    · have hi : ([] : Hp U)[i]? = some c := hi
      simp at hi) ha hd
  refine (pure_walk P hF hm hn h (X := ⟨X.fb,[],[],X.t,X.n⟩) rfl hX hd' h1 h2).mono fun v s' ⟨sv,k1,k2,k3,k4,k5,k6⟩ => ?_
  subst hH
  refine ⟨sv,X.H,[],[],k1,below_den P.ok (X := ⟨X.fb,[],[],s'.t,s'.next⟩) (Y := ⟨X.wb,X.ns ++ [],X.H,s'.t,s'.next⟩) rfl rfl (fun N hN => .inl ?_) k2 k3,Step.ext hr h1 h2 k4 k5 k6,fun _ => rfl⟩
  rcases hN with hN | ⟨i,c,g1,g2,g3⟩
  · exact .inl hN
  · exact .inr ⟨i,c,by rw [List.append_nil] at g1; exact g1,g2,g3⟩
theorem CallOk.of_wpO {p : Par U} (P : ParOk T p) {f : FuncId} {body : Code} {rs : List ResultVar} (hF : T.fn f = some ⟨p.nt,body,rs⟩) {args : List (SV U)} {H : Hp U} {K : SV U → Hp U → Prop} (hm : p.m = H.length) (hn : args.length ≤ p.nt) (h : wp p body (frm0 0 args) H (finO p rs K)) {wr : Bool} (hwr : wr = false → H = []) : CallOk T p.S wr f H args K := by
  intro X vals hH hr hd s h1 h2
  refine EndsCall.of hF ?_
  have hR : Rl p.S p.nt [] X (frm0 0 args) ⟨vals ++ List.replicate (p.nt - vals.length) Go.undef,[]⟩ s := ⟨h1.symm,h2.symm,hr,frm0_ok hd _,by have := hd.len; simp; omega,rfl,.nil,fun _ h => by cases h⟩
  have hT : Tr p.m X s X s := by rw [hm,← hH]; exact Tr.refl hr s
  rw [← hH] at h
  refine (wp_sound body (P.r X s) (.inl rfl) hR hT h).mono fun e fr s1 ⟨dq1,F,Y1,k1,kR,kT,kq,_⟩ => ?_
  obtain ⟨s2,Y,yH,hfin,k2,k3⟩ := done_of kR kT fun D hD => (kq D hD).resolve_left (by simp)
  rw [← yH] at k1
  have he : isExit e = false := by cases e with
    | exit i => exact k1.elim
    | _ => rfl
  have k1 : resS p.S F Y.H rs fun l => ∃ v0 H0,covers p.m [(0,v0)] H0 [(0,valS l)] Y.H ∧ K v0 H0 := by
    cases e with
    | exit i => cases he
    | _ => exact k1
  obtain ⟨l,vals',⟨v0,H0,c1,c2⟩,g3,g4⟩ := resS_sound P.ok k2.rel k2.frm k1
  refine ⟨_,s2,finish_of he (by rw [kR.dfs]; exact hfin) (g4 s2 k2.t.symm),?_⟩
  have hR1 : Rl p.S 1 [] Y [(0,valS l)] ⟨[valOf vals'],[]⟩ s2 := by
    refine ⟨k2.t,k2.n,k2.rel,fun t => ?_,rfl,rfl,.nil,fun _ h => by cases h⟩
    unfold get
    cases hb : Nat.beq t 0 with
    | true => have := beq_nat hb; subst this; exact valS_den g3
    | false => exact .undef .nil
  obtain ⟨Z,z1,z2,z3⟩ := covers_sound P.ok hR1 k3 c1
  rw [hm,← hH] at z3
  obtain ⟨ns',d,e1,e2,e3⟩ := Tr.end hr h1 h2 z3 z2.t z2.n z2.rel
  have hd0 := z2.frm 0
  rw [e1] at hd0 e2
  rw [z1] at hd0 e2
  exact ⟨v0,H0,ns',d,c2,hd0,e2,fun hw => e3 fun N ⟨i,c,_,hi,_⟩ => by rw [hH,hwr hw] at hi; simp at hi⟩
end Go.Sx

/-
  SX, PART X: a law: its fixed fact by the kernel, the rest by the walk.
-/
namespace Go.Sx
open Go Go.Ev Go.RowKit
variable {U : Nat → Type} {T : Tab}
def argEnv (t : Tree) (n : Nat) : Env U := ⟨fun _ => False,[],[],t,n⟩
theorem argEnv_rel (S : Sys U) (t : Tree) (n : Nat) : HRel S (argEnv (U := U) t n) := ⟨rfl,fun i c N h => by simp [argEnv] at h,fun i j N h => by simp [argEnv] at h,fun i N h => by simp [argEnv] at h,fun N hN => hN.elim⟩
theorem argEnv_fb (t : Tree) (n N : Nat) : ¬ (argEnv (U := U) t n).fb N := fun h => by
  rcases h with h | ⟨i,c,h,_⟩
  · exact h
  · simp [argEnv] at h
theorem law_walk {p : Par U} (P : ParOk T p) {f g : FuncId} {i0 i1 d0 d1 d2 : Nat} {ops0 ops1 : Array Oper} {A rest : Code} {rs : List ResultVar} {ty0 ty1 ty2 bt : TypeId} {ps0 ps1 ps2 : String} {e0 e1 e2 : Array Edge} {ts : Array TypeId}
    (hF : T.fn f = some ⟨p.nt,.seq (.region i0 ops0 false) (.seq (.seq (.region i1 ops1 false) (.cond (.tmp d2) A .skip)) rest),rs⟩)
    (h0 : ops0.toList = [⟨some d0,.assign (.const (.bool false)),ty0,ps0,e0,none⟩])
    (h1 : ops1.toList = [⟨some d1,.call ⟨.value (.func g),#[],ts⟩,ty1,ps1,e1,none⟩,⟨some d2,.unOp .not bt (.tmp d1),ty2,ps2,e2,none⟩])
    (hd0 : d0 < p.nt) (hd1 : d1 < p.nt) (hd2 : d2 < p.nt)
    {args : List (SV U)} {vals : List Value} {s : St} (hm : p.m = 0) (hn : args.length ≤ p.nt) (hd : DenL p.S (argEnv s.t s.next) args vals)
    (hal : EndsPure T g [] s fun v _ _ => v = .bool true)
    (h : wp p rest ((d2,.bool false) :: (d1,.bool true) :: (d0,.bool false) :: frm0 0 args) [] (fin p rs fun v _ => v = .bool true)) :
    EndsCall T f vals s fun v _ => v = .bool true := by
  have hlen : (vals ++ List.replicate (p.nt - vals.length) Go.undef).length = p.nt := by
    have := hd.len
    simp; omega
  refine EndsCall.of hF ?_
  refine Ends.seq (Ends.region ?_)
  rw [h0]
  refine EndsOps.plain1 (v := .bool false) (s1 := s) rfl rfl (fun _ _ _ hh => by cases hh) rfl (EndsOps.nil ?_)
  refine Ends.seq (Ends.seq (Ends.region ?_))
  rw [h1]
  refine EndsOps.call1 (as := []) (g := g) (a := #[]) (c := #[]) (R := fun v s' => Keep s s' ∧ v = .bool true) rfl rfl rfl rfl hal fun v s1 ⟨hk,hv⟩ => ?_
  subst hv
  have hg : ∀ (l : List Value) (d : Nat) (v : Value),d < l.length → (l.set d v).getD d Go.undef = v := fun l d v hl => by simp [List.getD,hl]
  refine EndsOps.plain1 (v := .bool false) (s1 := s1) rfl ?_ (fun _ _ _ hh => by cases hh) rfl (EndsOps.nil ?_)
  · show evPlain T _ (.unOp .not bt (.tmp d1)) s1 = _
    simp only [evPlain,Fr.eval,Fr.put]
    rw [hg _ _ _ (by simp only [List.length_set,hlen]; exact hd1)]
    rfl
  refine Ends.cond (t := false) ?_ (Ends.skip ?_)
  · simp only [Fr.eval,Fr.put]
    rw [hg _ _ _ (by simp only [List.length_set,hlen]; exact hd2)]
  -- the rest
  have hL : Later (argEnv (U := U) s.t s.next) (argEnv s1.t s1.next) := ⟨fun i N h => by simp [argEnv] at h,fun i c h => by simp [argEnv] at h,fun N hN _ => ⟨hk.old N hN,argEnv_fb _ _ _⟩,hk.next⟩
  have hfrm : FrmOk p.S (argEnv s1.t s1.next) ((d2,.bool false) :: (d1,.bool true) :: (d0,.bool false) :: frm0 0 args) ((((vals ++ List.replicate (p.nt - vals.length) Go.undef).set d0 (.bool false)).set d1 (.bool true)).set d2 (.bool false)) := by
    have b : ∀ (q : Bool),Den p.S (argEnv (U := U) s1.t s1.next) (.bool q) (.bool q) := fun q => .bool .nil
    exact FrmOk.put (FrmOk.put (FrmOk.put (frm0_ok (hd.later hL) _) (by rw [hlen]; exact hd0) (b _)) (by simp only [List.length_set,hlen]; exact hd1) (b _)) (by simp only [List.length_set,hlen]; exact hd2) (b _)
  have hR : Rl p.S p.nt [] (argEnv s1.t s1.next) ((d2,.bool false) :: (d1,.bool true) :: (d0,.bool false) :: frm0 0 args) ⟨(((vals ++ List.replicate (p.nt - vals.length) Go.undef).set d0 (.bool false)).set d1 (.bool true)).set d2 (.bool false),[]⟩ s1 :=
    ⟨rfl,rfl,argEnv_rel _ _ _,hfrm,by simp only [List.length_set,hlen],rfl,.nil,fun _ h => by cases h⟩
  have hT : Tr p.m (argEnv (U := U) s1.t s1.next) s1 (argEnv s1.t s1.next) s1 := by rw [hm]; exact Tr.refl (argEnv_rel p.S s1.t s1.next) s1
  refine (wp_sound rest (P.r _ s1) (.inl rfl) hR hT h).mono fun e fr s2 ⟨dq1,F,Y1,k1,kR,kT,kq,_⟩ => ?_
  obtain ⟨s3,Y,yH,hfin,k2,k3⟩ := done_of kR kT fun D hD => (kq D hD).resolve_left (by simp)
  rw [← yH] at k1
  have he : isExit e = false := by cases e with
    | exit i => exact k1.elim
    | _ => rfl
  have k1 : resS p.S F Y.H rs fun l => resV Y.H (valS l) fun v H => bif below p.m v && Nat.beq p.m 0 then v = .bool true else False := by
    cases e with
    | exit i => cases he
    | _ => exact k1
  obtain ⟨l,vals',g1,g3,g4⟩ := resS_sound P.ok k2.rel k2.frm k1
  obtain ⟨v,H',q1,q2,q3⟩ := resV_sound k2.rel g1 (valS_den g3)
  obtain ⟨hb,hK⟩ := bif_true q1
  subst hK
  refine ⟨_,s3,finish_of he (by rw [kR.dfs]; exact hfin) (g4 s3 k2.t.symm),?_⟩
  generalize valOf vals' = w at q3 ⊢
  cases q3 with
  | bool _ => rfl
end Go.Sx
