/-
  EV, PART J: copy, clear; conversions; a string's walk; a Builder's string.
-/
import Derived.Test.YtelpkdjibjddlaaEvI
import Derived.MapKept
set_option linter.unusedSimpArgs false
set_option linter.unusedVariables false
namespace Go.Ev
open Go Go.RowKit
theorem firstCells_zero {n size : Nat} (hn : n = 0) {x : Value} {s s' : St} {l : List Value} (h : firstCells n size x s = some (l,s')) : l = [] := by
  subst hn
  unfold firstCells at h
  split at h
  · rw [if_pos rfl] at h; exact (ret_some h).1
  · exact (ret_some h).1
  · have := (ret_some h).1; simpa [byteVals] using this
  · cases h
section
variable {T : Tab} {P : Program} (hT : T.Ok P)
include hT
theorem sim_copy {φ : Phi} {B : Base} {s s' : St} {w : World} (hR : Rel φ B s.t.get w) {ts : Array TypeId} {ty : TypeId} {args args' : List Value} (ha : LRel φ args args') {v : Value}
    (h : copy T ts.toList args s = some (v,s')) : Came φ B s w v s' ((Builtin.copy_ ts ty ⟨args'⟩).run P w) := by
  generalize hts : ts.toList = tl at h
  rcases tl with _ | ⟨t,tr⟩
  · cases h
  rcases args with _ | ⟨d,_ | ⟨x,_ | ⟨y,r⟩⟩⟩
  · cases h
  · cases d <;> cases h
  · obtain ⟨d',r1,rfl,hdv,ha1⟩ := ha.cons_inv
    obtain ⟨x',r2,rfl,hx,ha2⟩ := ha1.cons_inv
    obtain rfl := ha2.nil_inv
    have e0 : ts[0]? = some t := by rw [← Array.getElem?_toList,hts]; rfl
    cases d <;> simp only [copy] at h <;> try (cases h; done)
    rename_i base dLen dCap
    rcases hd : T.und t with _ | k
    · simp [hd,fail] at h
    rcases hm : lenOf x with _ | m
    · cases k <;> simp [hd,hm,fail] at h
    cases k <;> simp only [hd,hm] at h <;> try (cases h; done)
    rename_i elem
    rcases hsz : T.size elem with _ | size
    · simp [hsz,fail] at h
    simp only [hsz] at h
    obtain ⟨cells,s1,h1,h2⟩ := bnd_some h
    obtain ⟨rfl,cells',hc1,hc2⟩ := sim_firstCells hR hx h1 P
    have hdst : ∃ base' c',d' = .slice base' dLen c' ∧ (base = none ↔ base' = none) := by
      cases hdv with
      | sliceNil => exact ⟨none,_,rfl,by simp⟩
      | sliceEx => exact ⟨_,_,rfl,by simp⟩
      | sliceEnd => exact ⟨_,_,rfl,by simp⟩
      | sliceGone => exact ⟨_,_,rfl,by simp⟩
    obtain ⟨base',c',rfl,hbn⟩ := hdst
    cases base with
    | none =>
      simp only at h2
      obtain ⟨rfl,rfl⟩ := ret_some h2
      obtain rfl := hbn.1 rfl
      refine .same hR ?_ (.int _ _)
      simp only [Builtin.copy_,e0,List.getElem?_toArray,List.getElem?_cons_zero,List.getElem?_cons_succ,Sem.run_bind,run_und hT hd,Result.andThen_ok,lenOf_rel hm hx,run_size hT hsz,hc2,Sem.run_pure,goInt]
    | some a =>
      obtain ⟨N,o,sp⟩ := a
      cases sp <;> simp only at h2 <;> try (cases h2; done)
      obtain ⟨_,s2,h3,h4⟩ := bnd_some h2
      obtain ⟨rfl,rfl⟩ := ret_some h4
      obtain ⟨hnx,hst⟩ := sim_storeCells (P := P) hT hR hc1 h3
      rcases hst with ⟨he,rfl⟩ | ⟨hne,L',w2,hL',hrun,hR',hK⟩
      · have he' : cells' = [] := by have := hc1.1; rw [he] at this; exact List.eq_nil_of_length_eq_zero this.symm
        subst he'
        refine .same hR ?_ (.int _ _)
        cases base' <;> simp only [Builtin.copy_,e0,List.getElem?_toArray,List.getElem?_cons_zero,List.getElem?_cons_succ,Sem.run_bind,run_und hT hd,Result.andThen_ok,lenOf_rel hm hx,run_size hT hsz,hc2,Sem.run_pure,goInt,Go.storeCells]
      · have hb : base' = some ⟨L'.blk,L'.off + o,none⟩ ∨ dLen = 0 := by
          cases hdv with
          | sliceEx _ _ hL _ => rw [hL] at hL'; cases hL'; exact .inl rfl
          | sliceEnd _ _ _ hL _ _ _ => rw [hL] at hL'; cases hL'; exact .inl rfl
          | sliceGone => exact .inr rfl
        rcases hb with rfl | h0
        · refine ⟨φ,w2,_,?_,by omega,.refl _ _ _,hR',.int _ _,hK⟩
          simp only [Builtin.copy_,e0,List.getElem?_toArray,List.getElem?_cons_zero,List.getElem?_cons_succ,Sem.run_bind,run_und hT hd,Result.andThen_ok,lenOf_rel hm hx,run_size hT hsz,hc2,Sem.run_pure,goInt,hrun]
        · subst h0
          exact (hne (firstCells_zero (n := Nat.min m 0) (by simp) h1)).elim
  · cases d <;> cases h
theorem clear_some {φ : Phi} {B : Base} {s s' : St} {w : World} (hR : Rel φ B s.t.get w) {ts : Array TypeId} {ty t elem : TypeId} {r' : List Value} {N o ln c' : Nat} {L : Loc} {v : Value} (hd : T.und t = some (.slice elem)) (hL : φ N = some L)
    (e0 : ts[0]? = some t) (h : (match zeros T elem (ln + 1) with
      | some z => bnd (storeCells N o z) fun _ => ret (.tuple #[])
      | none => fail : M Value) s = some (v,s')) : Came φ B s w v s' ((Builtin.clear_ ts ty ⟨.slice (some ⟨L.blk,L.off + o,none⟩) (ln + 1) c' :: r'⟩).run P w) := by
  rcases hz : zeros T elem (ln + 1) with _ | z
  · simp [hz,fail] at h
  simp only [hz] at h
  obtain ⟨zv,k,z1,z2,z3,rfl,z5⟩ := zeros_some hT hz
  obtain ⟨_,s2,h3,h4⟩ := bnd_some h
  obtain ⟨rfl,rfl⟩ := ret_some h4
  obtain ⟨hnx,hst⟩ := sim_storeCells (P := P) hT hR (Flat.lrel z5) h3
  have hzc : (Builtin.zeroCells zv.cells (ln + 1)).toList = rep (ln + 1) zv.cells.toList := made_rep _ _ _ rfl
  rcases hst with ⟨he,rfl⟩ | ⟨hne,L',w2,hL',hrun,hR',hK⟩
  · refine .same hR ?_ VRel.undef
    simp only [Builtin.clear_,e0,List.getElem?_toArray,List.getElem?_cons_zero,Sem.run_bind,run_und hT hd,Result.andThen_ok,Sem.run_pure,run_zero hT z1,hzc,he,Go.storeCells]
    rfl
  · rw [hL] at hL'; cases hL'
    refine ⟨φ,w2,_,?_,by omega,.refl _ _ _,hR',VRel.undef,hK⟩
    simp only [Builtin.clear_,e0,List.getElem?_toArray,List.getElem?_cons_zero,Sem.run_bind,run_und hT hd,Result.andThen_ok,Sem.run_pure,run_zero hT z1,hzc,hrun]
    rfl
theorem sim_clear {φ : Phi} {B : Base} {s s' : St} {w : World} (hR : Rel φ B s.t.get w) {ts : Array TypeId} {ty : TypeId} {args args' : List Value} (ha : LRel φ args args') {v : Value}
    (h : clear T ts.toList args s = some (v,s')) : Came φ B s w v s' ((Builtin.clear_ ts ty ⟨args'⟩).run P w) := by
  generalize hts : ts.toList = tl at h
  rcases tl with _ | ⟨t,tr⟩
  · cases h
  rcases args with _ | ⟨x,r⟩
  · cases h
  obtain ⟨x',r',rfl,hx,_⟩ := ha.cons_inv
  have e0 : ts[0]? = some t := by rw [← Array.getElem?_toList,hts]; rfl
  simp only [clear] at h
  rcases hd : T.und t with _ | k
  · simp [hd,fail] at h
  cases k <;> simp only [hd] at h <;> try (cases h; done)
  rename_i elem
  cases hx <;> (try simp only at h) <;> try (cases h; done)
  · rename_i l c hc
    obtain ⟨rfl,rfl⟩ := ret_some h
    refine .same hR ?_ VRel.undef
    simp only [Builtin.clear_,e0,List.getElem?_toArray,List.getElem?_cons_zero,Sem.run_bind,run_und hT hd,Result.andThen_ok,Sem.run_pure]
    cases l <;> rfl
  · rename_i N o L ln cap hL hc
    cases ln with
    | zero =>
      simp only at h
      obtain ⟨rfl,rfl⟩ := ret_some h
      refine .same hR ?_ VRel.undef
      simp only [Builtin.clear_,e0,List.getElem?_toArray,List.getElem?_cons_zero,Sem.run_bind,run_und hT hd,Result.andThen_ok,Sem.run_pure]
      rfl
    | succ ln =>
      simp only at h
      exact clear_some hT hR hd hL e0 h
  · rename_i N o L ln es cap' hL hc hl he
    cases ln with
    | zero =>
      simp only at h
      obtain ⟨rfl,rfl⟩ := ret_some h
      refine .same hR ?_ VRel.undef
      simp only [Builtin.clear_,e0,List.getElem?_toArray,List.getElem?_cons_zero,Sem.run_bind,run_und hT hd,Result.andThen_ok,Sem.run_pure]
      rfl
    | succ ln =>
      simp only at h
      exact clear_some hT hR hd hL e0 h
  · obtain ⟨rfl,rfl⟩ := ret_some h
    refine .same hR ?_ VRel.undef
    simp only [Builtin.clear_,e0,List.getElem?_toArray,List.getElem?_cons_zero,Sem.run_bind,run_und hT hd,Result.andThen_ok,Sem.run_pure]
    rfl
end
end Go.Ev

/-
  EV, PART K: conversions; a string's walk; a Builder's string.
-/
namespace Go.Ev
open Go Go.RowKit
theorem bytesOf_rel {φ : Phi} : ∀ {l l' : List Value} {bs : List UInt8},bytesOf l = some bs → LRel φ l l' → ∃ ns : List Int,l' = ns.map (Value.int .u8) ∧ bs = ns.map (fun n => UInt8.ofNat n.toNat)
  | [],l',bs,h,hl => by
    obtain rfl := hl.nil_inv
    simp [bytesOf] at h; subst h
    exact ⟨[],rfl,rfl⟩
  | a :: r,l',bs,h,hl => by
    obtain ⟨a',r',rfl,ha,hr⟩ := hl.cons_inv
    cases a <;> (try simp only [bytesOf] at h) <;> try (cases h; done)
    rename_i k n
    cases k <;> (try simp only [bytesOf] at h) <;> try (cases h; done)
    simp only [Option.map_eq_some_iff] at h
    obtain ⟨b,hb,rfl⟩ := h
    obtain ⟨ns,rfl,rfl⟩ := bytesOf_rel hb hr
    cases ha
    exact ⟨n :: ns,rfl,rfl⟩
theorem foldl_push_ints : ∀ (ns : List Int) (r : ByteArray),ns.foldl (fun r n => r.push (UInt8.ofNat n.toNat)) r = ⟨r.data ++ (ns.map (fun n => UInt8.ofNat n.toNat)).toArray⟩
  | [],r => by simp
  | n :: ns,r => by
    simp only [List.foldl_cons]
    rw [foldl_push_ints ns]
    simp [ByteArray.push]
theorem run_loadBytes {P : Program} {w : World} (b o : Nat) : ∀ (ns : List Int) (i : Nat) (acc : ByteArray),(∀ j n,ns[j]? = some n → w.cell? ⟨b,o + i + j,none⟩ = some (.int .u8 n)) →
    (Go.loadBytes ⟨b,o + i,none⟩ acc ns.length).run P w = .ok ⟨acc.data ++ (ns.map (fun n => UInt8.ofNat n.toNat)).toArray⟩ w
  | [],i,acc,_ => by simp [Go.loadBytes]
  | n :: ns,i,acc,h => by
    have h0 := h 0 n rfl
    rw [Nat.add_zero] at h0
    have hadd : Addr.add ⟨b,o + i,none⟩ 1 = ⟨b,o + (i + 1),none⟩ := by rw [add_addr]; simp [Nat.add_assoc]
    simp only [List.length_cons,Go.loadBytes,Sem.run_bind,run_load,h0,Result.andThen_ok,hadd]
    rw [run_loadBytes b o ns (i + 1) _ (fun j m hj => by have := h (j + 1) m (by simpa using hj); rwa [show o + i + (j + 1) = o + (i + 1) + j by omega] at this)]
    congr 1
    simp [ByteArray.push]
section
variable {T : Tab} {P : Program} (hT : T.Ok P)
include hT
omit hT in
theorem shape_of {w : World} {b : Nat} {c : Array Value} {e : TypeId} {fz : Nat × Nat} (h : w.heap[b]? = some (.cells c e fz)) : w.shape? b = some (e,c.size) := by
  simp [World.shape?,h]
omit hT in
theorem isByte_und {e : TypeId} (h : isByte T e = true) : T.und e = some (.int .u8) := by
  unfold isByte at h
  split at h
  · assumption
  · cases h
omit hT in
theorem run_mod0 {a k : Nat} (h : a % (k + 1) = 0) : a = a / (k + 1) * (k + 1) := by
  have := Nat.div_add_mod a (k + 1)
  rw [h,Nat.add_zero,Nat.mul_comm] at this
  exact this.symm
theorem run_variablesAt {B : Base} (hBz : B.sz = P.cellsOf) {L : Loc} {c : Array Value} {e : TypeId} {fz : Nat × Nat} {w : World} {k o n : Nat} (hk : w.heap[L.blk]? = some (.cells c e fz)) (he : T.size e = some (k + 1))
    (hd : L.off % B.sz e = 0) (ho : o % (k + 1) = 0) (hn : L.off + o + n * (k + 1) ≤ c.size) : (variablesAt ⟨L.blk,L.off + o,none⟩ e n).run P w = .ok true w := by
  have hc : P.cellsOf e = k + 1 := cellsOf_size hT he
  rw [hBz,hc] at hd
  have hdep : ∃ d,P.depth = d + 1 := ⟨P.depth - 1,by unfold Program.depth; omega⟩
  obtain ⟨d,hdep⟩ := hdep
  have hmod : (L.off + o) % (k + 1) = 0 := by rw [Nat.add_mod,hd,ho]; simp
  have hdiv := run_mod0 hmod
  generalize (L.off + o) / (k + 1) = q at hdiv
  have hle : q + n ≤ c.size / (k + 1) := by
    rw [Nat.le_div_iff_mul_le (by omega),Nat.add_mul,← hdiv]; exact hn
  have hfit : sameLayout P P.depth e e = true := by rw [hdep]; unfold sameLayout; simp
  have hrow : rowAt P (sameLayout P P.depth · e) P.depth e (c.size / (k + 1)) (L.off + o) n = true := by
    rw [hdep]
    unfold rowAt
    simp only [hc]
    rw [if_neg (by omega)]
    have hq : (L.off + o) / (k + 1) = q := by rw [hdiv,Nat.mul_div_cancel _ (by omega)]
    simp only [hmod,hq]
    rw [← hdep,hfit]
    simp [hle]
  have hl : liesAt P P.depth e (c.size / (k + 1)) (L.off + o) e n = true := by
    rw [hdep]
    unfold liesAt
    rw [hrow]
    simp
  simp [variablesAt,shape_of hk,hc,hl]
theorem bytes_some {φ : Phi} {B : Base} {s s' : St} {w : World} (hR : Rel φ B s.t.get w) {src dst e : TypeId} {N o len cap : Nat} {x' v : Value} (us : (underlying src).run P w = .ok (.slice e) w) (ud : (underlying dst).run P w = .ok .string w)
    (ue : (underlying e).run P w = .ok (.int .u8) w) (hx : VRel φ (.slice (some ⟨N,o,none⟩) len cap) x') (h : (if len = 0 then ret (.string ⟨⟨[]⟩⟩) else bytesToStr N o len : M Value) s = some (v,s')) : Came φ B s w v s' ((Go.convert src dst x').run P w) := by
  have _ := hT
  have key : ∀ (a' : Addr) (cap' : Nat),(Go.convert src dst (.slice (some a') len cap')).run P w = ((Conv.bytesToString (.slice (some a') len cap')).run P w) := fun a' cap' => by
    simp [Go.convert,us,ud,ue]
  split at h
  · rename_i h0
    subst h0
    obtain ⟨rfl,rfl⟩ := ret_some h
    cases hx <;> (refine .same hR ?_ (.string _); rw [key]; rfl)
  · rename_i hne
    unfold bytesToStr at h
    obtain ⟨⟨vs,e,hi⟩,s1,h1,h2⟩ := bnd_some h
    obtain ⟨hN,rfl⟩ := rowOf_some h1
    simp only at h2 hN
    obtain ⟨l,s2,h3,h4⟩ := bnd_some h2
    obtain ⟨hl,rfl⟩ := lift_some h3
    obtain ⟨rfl,rfl⟩ := ret_some h4
    simp only [Option.bind_eq_some_iff] at hl
    obtain ⟨r,hr,hb⟩ := hl
    obtain ⟨L,r',hL,hrel,hrun⟩ := hR.cells hN (P := P) hr
    obtain ⟨ns,rfl,rfl⟩ := bytesOf_rel hb hrel
    have hlen : ns.length = len := by have := hrel.1; simp at this; rw [← this]; exact (slice_length hr).1
    have fin : ∀ cap',(Go.convert src dst (.slice (some ⟨L.blk,L.off + o,none⟩) len cap')).run P w = .ok (.string ⟨⟨ns.map fun n => UInt8.ofNat n.toNat⟩⟩) w := fun cap' => by
      rw [key,run_bytesToString w _ len cap' ns hrun,foldl_push_ints]
      have he0 : ByteArray.empty.data = #[] := rfl
      rw [he0]
      simp
    cases hx with
    | sliceEx _ _ hL' _ => rw [hL] at hL'; cases hL'; exact .same hR (fin _) (.string _)
    | sliceEnd _ _ _ hL' _ _ _ => rw [hL] at hL'; cases hL'; exact .same hR (fin _) (.string _)
    | sliceGone => exact absurd rfl hne
theorem sim_convertD {φ : Phi} {B : Base} (hBz : B.sz = P.cellsOf) {s s' : St} {w : World} (hR : Rel φ B s.t.get w) (hf : Fresh φ s.next s'.next) {src dst : TypeId} {ds dd : TypeDesc} (hs : T.und src = some ds) (hd : T.und dst = some dd) {x x' v : Value} (hx : VRel φ x x')
    (h : convertD T ds dd x s = some (v,s')) : Came φ B s w v s' ((Go.convert src dst x').run P w) := by
  have hEND : END = 4611686018427387904 := rfl
  have us := run_und hT hs w
  have ud := run_und hT hd w
  cases dd <;> simp only [convertD] at h <;> try (cases h; done)
  · cases hx <;> simp only at h <;> try (cases h; done)
    obtain ⟨rfl,rfl⟩ := ret_some h
    refine .same hR ?_ (.int _ _)
    cases ds <;> simp [Go.convert,us,ud,Conv.intToInt]
  · have hx0 := hx
    cases hx <;> (try simp only at h) <;> try (cases h; done)
    · obtain ⟨rfl,rfl⟩ := ret_some h
      refine .same hR ?_ (.string _)
      cases ds <;> simp [Go.convert,us,ud,Conv.intToString]
    · obtain ⟨rfl,rfl⟩ := ret_some h
      refine .same hR ?_ (.string _)
      cases ds <;> simp [Go.convert,us,ud]
    all_goals
      cases ds <;> (try simp only at h) <;> try (cases h; done)
      rename_i e
      split at h <;> try (cases h; done)
      rename_i hb
      have he := isByte_und hb
      have ue := run_und hT he w
    · obtain ⟨rfl,rfl⟩ := ret_some h
      refine .same hR ?_ (.string _)
      simp [Go.convert,us,ud,ue,Conv.bytesToString]
    · exact bytes_some hT hR us ud ue hx0 h
    · exact bytes_some hT hR us ud ue hx0 h
    · simp only [if_true] at h
      rename_i a a' cap'
      obtain ⟨N,o,sp⟩ := a
      cases sp <;> simp only at h <;> try (cases h; done)
      obtain ⟨rfl,rfl⟩ := ret_some h
      refine .same hR ?_ (.string _)
      simp [Go.convert,us,ud,ue,Conv.bytesToString,Go.loadCells,Go.loadCellsFrom]
      rfl
  · -- to unsafe.Pointer
    cases ds <;> simp only at h <;> try (cases h; done)
    rename_i t
    cases hx <;> (try simp only at h) <;> try (cases h; done)
    rename_i N o L hL
    unfold toUnsafe at h
    rcases ht : T.size t with _ | _ | n
    · simp [ht,fail] at h
    · simp [ht,fail] at h
    · simp only [ht] at h
      obtain ⟨⟨vs,e,hi⟩,s1,h1,h2⟩ := bnd_some h
      obtain ⟨hN,rfl⟩ := rowOf_some h1
      simp only at h2 hN
      split at h2
      · rename_i ho
        obtain ⟨rfl,rfl⟩ := ret_some h2
        refine .same hR ?_ (.ptr hL)
        obtain ⟨L2,hL2,c,fz,k1,k2,k3,k4,k5⟩ := hR.blk N _ hN
        rw [hL] at hL2; cases hL2
        have hsh := shape_of k1
        have hlt : ¬ (c.size ≤ L.off + o) := by omega
        simp [Go.convert,us,ud,Conv.unsafePointer,Conv.seenAt,viewAt,hsh,cellsIn,run_size hT ht,hlt]
      · cases h2
  · -- and back
    rename_i t
    cases ds <;> simp only at h <;> try (cases h; done)
    cases hx <;> (try simp only at h) <;> try (cases h; done)
    rename_i N o L hL
    unfold fromUnsafe at h
    rcases ht : T.size t with _ | _ | n
    · simp [ht,fail] at h
    · simp [ht,fail] at h
    · simp only [ht] at h
      obtain ⟨⟨vs,e,hi⟩,s1,h1,h2⟩ := bnd_some h
      obtain ⟨hN,rfl⟩ := rowOf_some h1
      simp only at h2 hN
      split at h2
      · rename_i hc
        obtain ⟨rfl,c2,c3,c4⟩ := hc
        obtain ⟨rfl,rfl⟩ := ret_some h2
        refine .same hR ?_ (.ptr hL)
        obtain ⟨L2,hL2,c,fz,k1,k2,k3,k4,k5⟩ := hR.blk N _ hN
        rw [hL] at hL2; cases hL2
        have hsh := shape_of k1
        have hva := run_variablesAt (n := 1) hT hBz k1 ht (k5 c2).2.2 c3 (by omega)
        simp [Go.convert,us,ud,Conv.unsafePointer,Conv.seenAt,viewAt,hsh,run_size hT ht,hva]
      · cases h2
  · -- a string's bytes
    rename_i e
    cases ds <;> simp only at h <;> try (cases h; done)
    cases hx <;> (try simp only at h) <;> try (cases h; done)
    rename_i str
    split at h <;> try (cases h; done)
    rename_i hb
    have he := isByte_und hb
    unfold strToBytes at h
    split at h
    · rename_i hlen
      obtain ⟨N,s1,h1,h2⟩ := bnd_some h
      obtain ⟨rfl,rfl⟩ := newB_some h1
      obtain ⟨rfl,rfl⟩ := ret_some h2
      have hfr : φ s.next = none := hf s.next (Nat.le_refl _) (by simp)
      have hrun := run_bytes_of_string (P := P) w src dst e str (hT.und _ _ hs) (hT.und _ _ hd) (hT.und _ _ he)
      have hsz : str.data.toList.length = str.size := Array.length_toList
      have hge := grownCap_ge w str.size 0 e
      generalize grownCap w str.size 0 e = cap at hge hrun
      have hbs : (bytesRow str cap).size = cap := by
        have : str.data.size = str.size := rfl
        simp [bytesRow,this]; omega
      have hRn := (hR.heap (w' := w.drew) rfl).newRow hfr (byteVals str.data.toList) (bytesRow str cap) e END ((bytesRow str cap).size,(bytesRow str cap).size + 1)
        (by rw [hbs]; simp [byteVals]; omega) (fun i v hv => ⟨v,by
          have hi : i < str.data.toList.length := by have := (List.getElem?_eq_some_iff.1 hv).1; simpa [byteVals] using this
          rw [← hv]
          have hi' : i < str.data.size := by simpa using hi
          simp only [bytesRow,byteVals]
          rw [Array.getElem?_append_left (by simpa using hi')]
          simp,by
          simp only [byteVals,List.getElem?_map,Option.map_eq_some_iff] at hv
          obtain ⟨b,_,rfl⟩ := hv
          exact .int _ _⟩) (fun hh => by omega)
      refine ⟨_,_,_,hrun,by simp,.add ⟨w.heap.size,0,(bytesRow str cap).size⟩ hfr hR.newOk,by simp only; rw [get_upd]; exact hRn,?_,.grow⟩
      rw [hsz]
      exact VRel.sliceEnd (L := ⟨w.heap.size,0,(bytesRow str cap).size⟩) _ 1 cap (Phi.add_same _ _ _) (by simp only [hbs]; omega) hge (by omega)
    · cases h
theorem sim_convert {φ : Phi} {B : Base} (hBz : B.sz = P.cellsOf) {s s' : St} {w : World} (hR : Rel φ B s.t.get w) (hf : Fresh φ s.next s'.next) {src dst : TypeId} {x x' v : Value} (hx : VRel φ x x')
    (h : convert T src dst x s = some (v,s')) : Came φ B s w v s' ((Go.convert src dst x').run P w) := by
  unfold convert at h
  rcases hs : T.und src with _ | ds
  · simp [hs,fail] at h
  rcases hd : T.und dst with _ | dd
  · simp [hs,hd,fail] at h
  simp only [hs,hd] at h
  exact sim_convertD hT hBz hR hf hs hd hx h
theorem sim_unsafeString {φ : Phi} {B : Base} (hBz : B.sz = P.cellsOf) {s s' : St} {w : World} (hR : Rel φ B s.t.get w) {ts : Array TypeId} {ty : TypeId} {args args' : List Value} (ha : LRel φ args args') {v : Value}
    (h : unsafeStr T ts.toList args s = some (v,s')) : Came φ B s w v s' ((Builtin.unsafeString_ ts ty ⟨args'⟩).run P w) := by
  have hEND : END = 4611686018427387904 := rfl
  generalize hts : ts.toList = tl at h
  rcases tl with _ | ⟨t,tr⟩
  · cases h
  rcases args with _ | ⟨p,_ | ⟨n,_ | ⟨y,r⟩⟩⟩
  · cases h
  · cases p <;> cases h
  · obtain ⟨p',r1,rfl,hp,ha1⟩ := ha.cons_inv
    obtain ⟨n',r2,rfl,hn,ha2⟩ := ha1.cons_inv
    obtain rfl := ha2.nil_inv
    have e0 : ts[0]? = some t := by rw [← Array.getElem?_toList,hts]; rfl
    simp only [unsafeStr] at h
    cases hn <;> (try simp only at h) <;> try (cases p <;> cases h; done)
    rename_i k n
    have hn0 : ∀ (q : Option Addr),n = 0 → (Builtin.unsafeString_ ts ty #[.pointer q,.int k n]).run P w = .ok (.string .empty) w := fun q h0 => by
      subst h0
      change Sem.run P (Go.asInt (.int k 0) >>= _) w = _
      rw [Sem.run_bind]
      cases q <;> simp [Go.asInt,asIntOf,e0]
    cases hp <;> (try simp only at h) <;> try (cases h; done)
    · split at h
      · rename_i h0
        obtain ⟨rfl,rfl⟩ := ret_some h
        exact .same hR (hn0 _ h0) (.string _)
      · cases h
    · rename_i N o L hL
      split at h
      · rename_i h0
        obtain ⟨rfl,rfl⟩ := ret_some h
        exact .same hR (hn0 _ h0) (.string _)
      · rename_i h0
        split at h
        · cases h
        · rename_i hneg
          obtain ⟨⟨vs,e,hi⟩,s1,h1,h2⟩ := bnd_some h
          obtain ⟨hN,rfl⟩ := rowOf_some h1
          simp only at h2 hN
          obtain ⟨l,s2,h3,h4⟩ := bnd_some h2
          obtain ⟨hl,rfl⟩ := lift_some h3
          split at h4
          · rename_i hc
            obtain ⟨c1,c2,c3,rfl,c5,c6⟩ := hc
            obtain ⟨_,s3,h5,h6⟩ := bnd_some h4
            obtain ⟨_,rfl⟩ := setB_some h5
            obtain ⟨rfl,rfl⟩ := ret_some h6
            simp only [Option.bind_eq_some_iff] at hl
            obtain ⟨r,hr,hb⟩ := hl
            obtain ⟨hrl,hrv⟩ := slice_length hr
            obtain ⟨L2,hL2,c,fz,k1,k2,k3,k4,k5⟩ := hR.blk N _ hN
            rw [hL] at hL2; cases hL2
            obtain ⟨hB,hfz,hdv⟩ := k5 c5
            have hpt : P.underlying t = some (.pointer e) := by
              unfold ptrElem at c1
              split at c1
              · rename_i e' hu; cases c1; exact hT.und _ _ hu
              · cases c1
            have hnlen : n.toNat ≤ vs.length := by
              have := hrl; rw [hrv] at this; simp at this; omega
            have hva := run_variablesAt (n := n.toNat) (o := 0) (k := 0) hT hBz k1 c3 hdv (by simp) (by omega)
            rw [Nat.add_zero] at hva
            -- the bytes
            have hrel : LRel φ r ((List.range n.toNat).map fun i => (c[L.off + i]?).getD undef) := by
              refine ⟨by simp [hrl],fun i v v' hv hv' => ?_⟩
              have hi' : i < n.toNat := by have := (List.getElem?_eq_some_iff.1 hv).1; omega
              rw [hrv,List.getElem?_take,if_pos hi',List.getElem?_drop] at hv
              obtain ⟨v2,q1,q2⟩ := k4 _ _ hv
              rw [List.getElem?_map,List.getElem?_range hi'] at hv'
              rw [Nat.zero_add] at q1
              simp only [Option.map_some,q1,Option.getD_some,Option.some.injEq] at hv'
              subst hv'; exact q2
            obtain ⟨ns,hns,rfl⟩ := bytesOf_rel hb hrel
            have hnl : ns.length = n.toNat := by have := congrArg List.length hns; simp at this; exact this.symm
            have hload := run_loadBytes (P := P) (w := w) L.blk L.off ns 0 .empty (fun j m hj => by
              have hj' : j < n.toNat := by have := (List.getElem?_eq_some_iff.1 hj).1; omega
              have hg : ((List.range n.toNat).map fun i => (c[L.off + i]?).getD undef)[j]? = some (.int .u8 m) := by rw [hns,List.getElem?_map,hj]; rfl
              rw [List.getElem?_map,List.getElem?_range hj'] at hg
              simp only [Option.map_some,Option.some.injEq] at hg
              rw [Array.getElem?_eq_getElem (by omega)] at hg
              simp only [Option.getD_some] at hg
              rw [Nat.add_zero]
              simp only [World.cell?,k1]
              simp [Array.getElem?_eq_getElem (show L.off + j < c.size by omega),hg])
            rw [hnl,Nat.add_zero] at hload
            have hfz2 : (w.freeze ⟨L.blk,L.off,none⟩ n.toNat).heap[L.blk]? = some (.cells c e (if fz.1 == fz.2 then (L.off,L.off + n.toNat) else (min fz.1 L.off,max fz.2 (L.off + n.toNat)))) := by
              unfold World.freeze
              rw [if_neg (by omega)]
              simp [Array.getElem?_modify,k1]
            have hoth : ∀ q,q ≠ L.blk → (w.freeze ⟨L.blk,L.off,none⟩ n.toNat).heap[q]? = w.heap[q]? := fun q hq => by
              unfold World.freeze
              rw [if_neg (by omega)]
              simp [Array.getElem?_modify,Ne.symm hq]
            have hsize : (w.freeze ⟨L.blk,L.off,none⟩ n.toNat).heap.size = w.heap.size := by
              unfold World.freeze
              rw [if_neg (by omega)]
              simp
            have ho : (w.freeze ⟨L.blk,L.off,none⟩ n.toNat).os = w.os ∧ (w.freeze ⟨L.blk,L.off,none⟩ n.toNat).tape = w.tape ∧ (w.freeze ⟨L.blk,L.off,none⟩ n.toNat).output = w.output := by
              unfold World.freeze
              rw [if_neg (by omega)]
              exact ⟨rfl,rfl,rfl⟩
            have hwr : wr (.cells vs e hi) := c5
            have hmx : Nat.max hi n.toNat < END := Nat.max_lt.2 ⟨c5,c6⟩
            have hge1 : hi ≤ Nat.max hi n.toNat := Nat.le_max_left _ _
            have hge2 : n.toNat ≤ Nat.max hi n.toNat := Nat.le_max_right _ _
            refine ⟨φ,w.freeze ⟨L.blk,L.off,none⟩ n.toNat,.string ⟨⟨ns.map fun n => UInt8.ofNat n.toNat⟩⟩,?_,by simp,.refl _ _ _,?_,.string _,Keeps.set hN hL hwr ho.1 ho.2.1 ho.2.2 hsize hoth⟩
            · have h63 : ¬ (n > IntKind.i64.max) := by rw [IntKind.max_i64]; omega
              have hel : (elemOf t).run P w = .ok e w := by simp [elemOf,run_underlying hpt]
              have he0 : ByteArray.empty.data = #[] := rfl
              rw [he0] at hload
              change Sem.run P (Go.asInt (.int k n) >>= _) w = _
              rw [Sem.run_bind]
              simp only [Go.asInt,asIntOf,e0,Sem.run_bind,Sem.run_pure,Result.andThen_ok,hneg,if_false,h63,h0,Nat.add_zero,hel,hva,if_true,hload,run_freeze]
              simp
            · simp only
              rw [get_upd]
              refine hR.set hN hL hwr _ hsize hoth ⟨c,_,hfz2,k2,k3,k4,fun _ => ⟨hB,?_,hdv⟩⟩
              by_cases hq : fz.1 = fz.2
              · simp [hq]; right; omega
              · simp only [beq_iff_eq,hq,if_false]
                right
                rcases hfz with hfz | hfz
                · exact absurd hfz hq
                · have : max fz.2 (L.off + n.toNat) ≤ L.off + Nat.max hi n.toNat := by omega
                  exact this
          · cases h4
  · cases p <;> cases h
end
end Go.Ev

/-
  EV, PART KM: maps; a slice's capacity.
-/
namespace Go.Ev
open Go Go.RowKit
theorem sameCell_eq {a b : Value} (h : sameCell a b = true) : a = b := by
  unfold sameCell at h
  split at h
  · simp only [Bool.and_eq_true,decide_eq_true_eq,beq_iff_eq] at h; rw [h.1,h.2]
  · rename_i a b
    obtain ⟨⟨a⟩⟩ := a
    obtain ⟨⟨b⟩⟩ := b
    simp only [beq_iff_eq] at h; rw [h]
  · simp only [beq_iff_eq] at h; rw [h]
  · cases h
theorem sameCells_eq : ∀ {l m : List Value},sameCells l m = true → l = m
  | [],[],_ => rfl
  | a :: l,b :: m,h => by
    simp only [sameCells,Bool.and_eq_true] at h
    rw [sameCell_eq h.1,sameCells_eq h.2]
  | [],_ :: _,h => by cases h
  | _ :: _,[],h => by cases h
theorem sameKey_eq {a b : Value} (h : sameKey a b = true) : a = b := by
  unfold sameKey at h
  split at h
  · rename_i a b
    obtain ⟨a⟩ := a
    obtain ⟨b⟩ := b
    rw [show a = b from sameCells_eq h]
  · exact sameCell_eq h
theorem plain_cell {φ : Phi} {v v' : Value} (h : VRel φ v v') (hp : plainCell v = true) : v' = v := by
  cases h <;> first | rfl | (cases hp)
theorem plainKey_eq {φ : Phi} {v v' : Value} (h : VRel φ v v') (hp : plainKey v = true) : v' = v := by
  cases h <;> first | rfl | (cases hp; done) | skip
  rename_i a a' hl hv
  have hp' := List.all_eq_true.1 (show a.toList.all plainCell = true from hp)
  obtain ⟨a⟩ := a
  obtain ⟨a'⟩ := a'
  have : a' = a := by
    apply List.ext_getElem?
    intro i
    rcases Nat.lt_or_ge i a.length with hi | hi
    · have hi' : i < a'.length := by simpa using (show a.length = a'.length from hl) ▸ hi
      have := plain_cell (hv i a[i] a'[i] (by simp [hi]) (by simp [hi'])) (hp' _ (by simp))
      simp [hi,hi',this]
    · have hi' : a'.length ≤ i := (show a.length = a'.length from hl) ▸ hi
      simp [hi,hi']
  rw [this]
theorem sameBits_plain {k : Value} (hp : plainKey k = true) (n : Nat) : Instr.sameBits (n + 2) k k = true := by
  have one : ∀ {n : Nat} {v : Value},plainCell v = true → Instr.sameBits (n + 1) v v = true := fun {n v} hv => by
    cases v <;> first | (cases hv; done) | (simp only [Instr.sameBits,beq_self_eq_true,Bool.and_self]; done) | (rename_i s; obtain ⟨x⟩ := s; exact (show (x == x) = true by simp))
  cases k <;> first | (cases hp; done) | exact one (n := n + 1) hp | skip
  · rename_i a
    have hp' := List.all_eq_true.1 (show a.toList.all plainCell = true from hp)
    simp only [Instr.sameBits,beq_self_eq_true,Bool.true_and,List.all_eq_true]
    rintro ⟨x,y⟩ hxy
    have he : x = y ∧ x ∈ a.toList := by
      obtain ⟨i,hi,e⟩ := List.mem_iff_getElem.1 hxy
      simp only [List.getElem_zip,Prod.mk.injEq] at e
      exact ⟨e.1.symm.trans e.2,e.1 ▸ List.getElem_mem _⟩
    obtain ⟨rfl,hm⟩ := he
    exact one (hp' _ hm)
section
variable {T : Tab} {P : Program} (hT : T.Ok P)
include hT
omit hT in
theorem plain_flat {k : Value} (hp : plainKey k = true) : Flat k := by
  have one : ∀ {v : Value},plainCell v = true → Flat v := fun {v} hv => by
    cases v <;> first | (cases hv; done) | constructor
  cases k <;> first | (cases hp; done) | exact one hp | skip
  rename_i a
  exact .agg a fun i v hv => one (List.all_eq_true.1 (show a.toList.all plainCell = true from hp) v (List.mem_of_getElem? hv))
theorem run_part_plain {t : TypeId} {cs : Array Value} {o : Nat} {p : Value} (hc : plainKey (.agg cs) = true) (h : part T t cs.toList o = some p) (hp : plainKey p = true) (w : World) : (Go.part t cs o).run P w = .ok p w := by
  have hf := plain_flat hc
  obtain ⟨v',r,hv⟩ := sim_part hT (φ := fun _ => none) h (Flat.lrel fun v hv => by
    cases hf with
    | agg _ hh => obtain ⟨i,hi⟩ := List.mem_iff_getElem?.1 hv; exact hh i v hi) w
  rw [plainKey_eq hv hp] at r
  exact r
theorem run_keyOk (em : Bool) (w : World) : ∀ (n : Nat) (t : TypeId) (v : Value),plainKey v = true → keyOk T n t v = true → ∀ m,n ≤ m → (Instr.checkKey em m t v).run P w = .ok () w
  | 0,t,v,_,h,_,_ => by cases h
  | n + 1,t,v,hpl,h,m,hm => by
    obtain ⟨m,rfl⟩ : ∃ q,m = q + 1 := ⟨m - 1,by omega⟩
    unfold keyOk at h
    cases hd : T.und t with
    | none => rw [hd] at h; cases h
    | some d =>
      have hu := run_und hT hd
      rw [Instr.checkKey]
      simp only [Sem.run_bind,hu,Result.andThen_ok]
      rw [hd] at h
      cases d <;> simp only at h <;> first | (cases h; done) | (cases v <;> rfl) | skip
      · rename_i len e
        cases hs : T.size e with
        | none => rw [hs] at h; cases v <;> cases h
        | some k =>
          rw [hs] at h
          cases v <;> (try simp only at h) <;> try (cases h; done)
          rename_i cs
          dsimp only
          simp only [Sem.run_bind]
          have each := List.all_eq_true.1 h
          simp only [Std.Legacy.Range.forIn_eq_forIn_range',Std.Legacy.Range.size,Nat.sub_zero,Nat.add_one_sub_one,Nat.div_one]
          rw [List.range_eq_range'] at each
          clear h
          generalize List.range' 0 len = is at each
          induction is with
          | nil => simp
          | cons j is ih =>
            have hj := each j (by simp)
            cases hp : part T e cs.toList (j * k) with
            | none => rw [hp] at hj; cases hj
            | some p =>
              rw [hp] at hj
              simp only [Bool.and_eq_true] at hj
              have r1 := run_part_plain hT hpl hp hj.1 w
              have r2 := run_keyOk em w n e p hj.1 hj.2 m (by omega)
              simp only [List.forIn_cons,Sem.run_bind,run_size hT hs,Result.andThen_ok,r1,r2,Sem.run_pure]
              exact ih fun y hy => each y (by simp [hy])
      · rename_i fs
        cases v <;> (try simp only at h) <;> try (cases h; done)
        rename_i cs
        dsimp only
        simp only [Sem.run_bind]
        have each := List.all_eq_true.1 h
        rw [← Array.forIn_toList]
        clear h
        generalize fs.toList = L at each
        induction L with
        | nil => simp
        | cons f L ih =>
          have hj := each f (by simp)
          simp only [Bool.and_eq_true,Bool.not_eq_true',beq_eq_false_iff_ne] at hj
          cases hp : part T f.type cs.toList f.offset with
          | none => rw [hp] at hj; cases hj.2
          | some p =>
            rw [hp] at hj
            simp only [Bool.and_eq_true] at hj
            have r1 := run_part_plain hT hpl hp hj.2.1 w
            have r2 := run_keyOk em w n f.type p hj.2.1 hj.2.2 m (by omega)
            have hn : f.name ≠ "_" := hj.1
            simp only [List.forIn_cons,Sem.run_bind,hn,ne_eq,not_false_eq_true,if_true,Result.andThen_ok,r1,r2,Sem.run_pure]
            exact ih fun y hy => each y (by simp [hy])
def ERel (φ : Phi) (l l' : List MapEntry) : Prop := l.length = l'.length ∧ ∀ (i : Nat) (e e' : MapEntry),l[i]? = some e → l'[i]? = some e' → e.born = e'.born ∧ VRel φ e.key e'.key ∧ plainKey e.key = true ∧ VRel φ e.val e'.val
omit hT in
theorem ERel.cons_inv {φ : Phi} {e : MapEntry} {l l' : List MapEntry} (h : ERel φ (e :: l) l') : ∃ e' r',l' = e' :: r' ∧ (e.born = e'.born ∧ VRel φ e.key e'.key ∧ plainKey e.key = true ∧ VRel φ e.val e'.val) ∧ ERel φ l r' := by
  obtain ⟨h1,h2⟩ := h
  cases l' with
  | nil => simp at h1
  | cons e' r' => exact ⟨e',r',rfl,h2 0 e e' rfl rfl,by simpa using h1,fun i a b ha hb => h2 (i + 1) a b (by simpa using ha) (by simpa using hb)⟩
omit hT in
theorem ERel.nil_inv {φ : Phi} {l' : List MapEntry} (h : ERel φ [] l') : l' = [] := by have := h.1; simp at this; exact List.eq_nil_of_length_eq_zero this.symm
inductive FRes (φ : Phi) (l l' : List MapEntry) (k : Value) : Option (Nat × Value) → Option (Nat × Value) → Prop
  | none : FRes φ l l' k none none
  | some {i : Nat} {e e' : MapEntry} (h1 : l[i]? = some e) (h2 : l'[i]? = some e') (h3 : e'.key = k) (h4 : VRel φ e.val e'.val) : FRes φ l l' k (some (i,e.val)) (some (i,e'.val))
theorem sim_findAsking {φ : Phi} {t : TypeId} {k : Value} (hk : plainKey k = true) (w : World) : ∀ (l l' : List MapEntry) (i : Nat) (r : Option (Nat × Value)),ERel φ l l' → Ev.findKey T t k l i = some r →
    ∃ r',(Instr.findAsking t k l' i).run P w = .ok r' w ∧ ((r = none ∧ r' = none) ∨ ∃ j e e',r = some (i + j,e.val) ∧ r' = some (i + j,e'.val) ∧ l[j]? = some e ∧ l'[j]? = some e' ∧ e'.key = k ∧ VRel φ e.val e'.val)
  | [],l',i,r,hr,h => by
    rw [hr.nil_inv]
    simp only [Ev.findKey,Option.some.injEq] at h
    subst h
    exact ⟨none,by simp [Instr.findAsking],.inl ⟨rfl,rfl⟩⟩
  | e :: l,l',i,r,hr,h => by
    obtain ⟨e',q',rfl,⟨hb,hkey,hpk,hval⟩,hr2⟩ := hr.cons_inv
    have hke := plainKey_eq hkey hpk
    unfold Ev.findKey at h
    cases he : equalF T 50 t k e.key with
    | none => rw [he] at h; cases h
    | some b =>
      rw [he] at h
      have hq := sim_equal hT 50 t k e.key b k e'.key w he (plain_flat hk).vrel hkey Op.maxDepth (by decide)
      cases b with
      | true =>
        simp only at h
        split at h
        · rename_i hs
          cases h
          refine ⟨some (i,e'.val),?_,.inr ⟨0,e,e',rfl,rfl,rfl,rfl,?_,hval⟩⟩
          · simp only [Instr.findAsking,Op.equal,Sem.run_bind,hq,Result.andThen_ok,if_true,Sem.run_pure]
          · rw [hke]; exact (sameKey_eq hs).symm
        · cases h
      | false =>
        simp only at h
        obtain ⟨r',h1,h2⟩ := sim_findAsking hk w l q' (i + 1) r hr2 h
        refine ⟨r',?_,?_⟩
        · simp only [Instr.findAsking,Op.equal,Sem.run_bind,hq,Result.andThen_ok,Bool.false_eq_true,if_false]
          exact h1
        · rcases h2 with h2 | ⟨j,a,a',e1,e2,e3,e4,e5,e6⟩
          · exact .inl h2
          · exact .inr ⟨j + 1,a,a',by rw [e1]; congr 2; omega,by rw [e2]; congr 2; omega,by simpa using e3,by simpa using e4,e5,e6⟩
theorem findNow_asking {φ : Phi} {t : TypeId} {d : TypeDesc} {k : Value} (hd : T.und t = some d) (hk : plainKey k = true) (w : World) : ∀ (l l' : List MapEntry) (i : Nat) (r x : Option (Nat × Value)),ERel φ l l' → Ev.findKey T t k l i = some r →
    Instr.findNow d k l' i = some x → (Instr.findAsking t k l' i).run P w = .ok x w
  | [],l',i,r,x,hr,h,hx => by
    rw [hr.nil_inv] at hx ⊢
    simp only [Instr.findNow,Option.some.injEq] at hx
    subst hx
    simp [Instr.findAsking]
  | e :: l,l',i,r,x,hr,h,hx => by
    obtain ⟨e',q',rfl,⟨hb,hkey,hpk,hval⟩,hr2⟩ := hr.cons_inv
    have hke := plainKey_eq hkey hpk
    unfold Ev.findKey at h
    unfold Instr.findNow at hx
    cases he : equalF T 50 t k e.key with
    | none => rw [he] at h; cases h
    | some b =>
      rw [he] at h
      have hq := sim_equal hT 50 t k e.key b k e'.key w he (plain_flat hk).vrel hkey Op.maxDepth (by decide)
      cases hs : Instr.sameNow d k e'.key with
      | none => rw [hs] at hx; cases hx
      | some c =>
        rw [hs] at hx
        have hbc : c = b := by
          rw [hke] at hs
          clear hq
          revert hs he
          generalize e.key = kk
          intro he hs
          unfold equalF at he
          rw [hd] at he
          unfold Instr.sameNow at hs
          split at hs
          · split at hs
            · rename_i hkk
              subst hkk
              simp only [if_true] at he hs
              rw [← Option.some.inj he,← Option.some.inj hs]
            · cases hs
          · rw [← Option.some.inj he,← Option.some.inj hs,beq_toListBytes,ByteArray.toList_eq,ByteArray.toList_eq]
          · rw [← Option.some.inj he,← Option.some.inj hs]
          · cases hs
        subst hbc
        cases c with
        | true =>
          simp only [Option.some.injEq] at hx
          subst hx
          simp only [Instr.findAsking,Op.equal,Sem.run_bind,hq,Result.andThen_ok,if_true,Sem.run_pure]
        | false =>
          simp only at h hx
          simp only [Instr.findAsking,Op.equal,Sem.run_bind,hq,Result.andThen_ok,Bool.false_eq_true,if_false]
          exact findNow_asking hd hk w l q' (i + 1) r x hr2 h hx
theorem sim_findKey {φ : Phi} {t : TypeId} {k : Value} (hk : plainKey k = true) (w : World) {d : TypeDesc} (hd : T.und t = some d) {l l' : List MapEntry} {r : Option (Nat × Value)} (hr : ERel φ l l') (h : Ev.findKey T t k l 0 = some r) :
    ∃ r',(Instr.findKey t k l').run P w = .ok r' w ∧ FRes φ l l' k r r' := by
  obtain ⟨r',h1,h2⟩ := sim_findAsking hT hk w l l' 0 r hr h
  refine ⟨r',?_,?_⟩
  · unfold Instr.findKey
    simp only [Sem.run_bind,run_und hT hd,Result.andThen_ok]
    cases hx : Instr.findNow d k l' 0 with
    | none => exact h1
    | some x =>
      have := findNow_asking hT hd hk w l l' 0 r x hr h hx
      rw [h1] at this
      cases this
      rfl
  · rcases h2 with ⟨rfl,rfl⟩ | ⟨j,e,e',rfl,rfl,e3,e4,e5,e6⟩
    · exact .none
    · rw [Nat.zero_add]; exact .some e3 e4 e5 e6
omit hT in
theorem mapType_some {t : TypeId} {k : Value} {p : TypeId × TypeId} (h : mapType T t k = some p) : T.und t = some (.map p.1 p.2) ∧ plainKey k = true ∧ keyOk T 50 p.1 k = true := by
  unfold mapType at h
  split at h
  · rename_i key elem hd
    split at h
    · rename_i hc
      cases h
      simp only [Bool.and_eq_true] at hc
      exact ⟨hd,hc.1,hc.2⟩
    · cases h
  · cases h
omit hT in
theorem keyOk_und {n : Nat} {t : TypeId} {v : Value} (h : keyOk T n t v = true) : ∃ d,T.und t = some d := by
  cases n with
  | zero => cases h
  | succ n =>
    unfold keyOk at h
    cases hd : T.und t with
    | none => rw [hd] at h; cases h
    | some d => exact ⟨d,rfl⟩
omit hT in
theorem mapOf_some {r : Nat} {s s' : St} {m : List MapEntry × Nat} (h : mapOf r s = some (m,s')) : s.t.get r = some (.obj (.map ⟨m.1⟩ m.2)) ∧ s' = s := by
  unfold mapOf at h
  split at h
  · rename_i es c hg
    cases h
    exact ⟨hg,rfl⟩
  · cases h
omit hT in
theorem Rel.mapAt {φ : Phi} {B : Base} {H : Nat → Option Blk} {w : World} (hR : Rel φ B H w) {r : Nat} {es : Array MapEntry} {c : Nat} (hN : H r = some (.obj (.map es c))) :
    ∃ L es',φ r = some L ∧ w.heap[L.blk]? = some (.map es' c) ∧ ERel φ es.toList es'.toList ∧ ¬ B.keep L.blk ∧ L.off = 0 := by
  obtain ⟨L,hL,o',k1,k2,k3,k4⟩ := hR.blk r _ hN
  cases o' <;> simp only [ORel] at k2 <;> try (exact k2.elim)
  obtain ⟨rfl,k5,k6⟩ := k2
  exact ⟨L,_,hL,k1,⟨k5,k6⟩,k3,k4⟩
omit hT in
theorem Rel.putMap {φ : Phi} {B : Base} {H : Nat → Option Blk} {w : World} (hR : Rel φ B H w) {r : Nat} {es : Array MapEntry} {c : Nat} (hN : H r = some (.obj (.map es c))) {L : Loc} (hL : φ r = some L) {es' : Array MapEntry} (hw : w.heap[L.blk]? = some (.map es' c))
    (hk : ¬ B.keep L.blk) (ho : L.off = 0) {ns ns' : Array MapEntry} {d : Nat} (hE : ERel φ ns.toList ns'.toList) (P : Program) :
    ∃ w',(setObj L.blk (.map ns' d)).run P w = .ok () w' ∧ Rel φ B (upd H r (some (.obj (.map ns d)))) w' ∧ Keeps φ H w w' := by
  have hb : L.blk < w.heap.size := hR.inw _ _ hL
  refine ⟨{ w with heap := w.heap.setIfInBounds L.blk (.map ns' d) },by simp [setObj,Sem.run,hw],?_,?_⟩
  · exact hR.set hN hL trivial _ (by simp) (fun k hk => by simp [Array.getElem?_setIfInBounds,Ne.symm hk]) ⟨.map ns' d,by simp [hb],⟨rfl,hE.1,hE.2⟩,hk,ho⟩
  · exact Keeps.set hN hL trivial rfl rfl rfl (by simp) (fun k hk => by simp [Array.getElem?_setIfInBounds,Ne.symm hk])
omit hT in
theorem upd_self {H : Nat → Option Blk} {r : Nat} {b : Blk} (h : H r = some b) : upd H r (some b) = H := by
  funext j
  unfold upd
  split
  · rename_i e; subst e; exact h.symm
  · rfl
omit hT in
theorem ERel.modify {φ : Phi} {l l' : List MapEntry} (h : ERel φ l l') (i : Nat) {f f' : MapEntry → MapEntry}
    (hf : ∀ e e',l[i]? = some e → l'[i]? = some e' → (e.born = e'.born ∧ VRel φ e.key e'.key ∧ plainKey e.key = true ∧ VRel φ e.val e'.val) → ((f e).born = (f' e').born ∧ VRel φ (f e).key (f' e').key ∧ plainKey (f e).key = true ∧ VRel φ (f e).val (f' e').val)) :
    ERel φ (l.modify i f) (l'.modify i f') := by
  refine ⟨by simp [h.1],fun j a b ha hb => ?_⟩
  rw [List.getElem?_modify] at ha hb
  obtain ⟨a0,ha0,rfl⟩ := Option.map_eq_some_iff.1 (by simpa using ha)
  obtain ⟨b0,hb0,rfl⟩ := Option.map_eq_some_iff.1 (by simpa using hb)
  have := h.2 j a0 b0 ha0 hb0
  by_cases e : i = j
  · subst e
    simp only [if_true]
    exact hf a0 b0 ha0 hb0 this
  · simp only [if_neg e]
    exact this
omit hT in
theorem ERel.snoc {φ : Phi} {l l' : List MapEntry} (h : ERel φ l l') {e e' : MapEntry} (he : e.born = e'.born ∧ VRel φ e.key e'.key ∧ plainKey e.key = true ∧ VRel φ e.val e'.val) : ERel φ (l ++ [e]) (l' ++ [e']) := by
  refine ⟨by simp [h.1],fun j a b ha hb => ?_⟩
  rcases Nat.lt_or_ge j l.length with hj | hj
  · rw [List.getElem?_append_left hj] at ha
    rw [List.getElem?_append_left (h.1 ▸ hj)] at hb
    exact h.2 j a b ha hb
  · rw [List.getElem?_append_right hj] at ha
    rw [List.getElem?_append_right (h.1 ▸ hj)] at hb
    rw [← h.1] at hb
    cases hq : j - l.length with
    | zero => rw [hq] at ha hb; simp at ha hb; subst ha; subst hb; exact he
    | succ q => rw [hq] at ha; simp at ha
theorem sim_lookup {φ : Phi} {B : Base} {s s' : St} {w : World} (hR : Rel φ B s.t.get w) {t : TypeId} {x x' k k' v : Value} {ok : Bool} (hx : VRel φ x x') (hk : VRel φ k k') (h : lookup T t x k ok s = some (v,s')) :
    s' = s ∧ ∃ v',(Instr.lookup t x' k' ok).run P w = .ok v' w ∧ VRel φ v v' := by
  unfold lookup at h
  obtain ⟨p,s1,h1,h2⟩ := bnd_some h
  obtain ⟨hm,rfl⟩ := lift_some h1
  obtain ⟨z,s2,h3,h4⟩ := bnd_some h2
  obtain ⟨hz,rfl⟩ := lift_some h3
  obtain ⟨hd,hpk,hko⟩ := mapType_some hm
  obtain ⟨kd,hkd⟩ := keyOk_und hko
  have hke := plainKey_eq hk hpk
  subst hke
  have hzf := (hT.zero _ _ hz).2
  have hck := fun em => run_keyOk hT em w 50 p.1 k' hpk hko 10000 (by decide)
  have two : ∀ {a a' : Value} {b : Bool},VRel φ a a' → VRel φ (if ok = true then .tuple #[a,.bool b] else a) (if ok = true then .tuple #[a',.bool b] else a') := fun {a a' b} ha => by
    cases ok
    · exact ha
    · exact .tuple _ _ rfl (LRel.cons ha (.one (.bool b))).2
  cases x <;> (try simp only at h4) <;> try (cases h4; done)
  rename_i r
  cases r with
  | none =>
    cases hx
    obtain ⟨rfl,rfl⟩ := ret_some h4
    refine ⟨rfl,_,?_,two (b := false) hzf.vrel⟩
    simp only [Instr.lookup,Sem.run_bind,run_und hT hd,Result.andThen_ok,Sem.run_pure,hck,Instr.findKey,run_und hT hkd,Instr.findNow,run_zero hT hz]
  | some r =>
    cases hx with
    | @map _ L2 hL =>
      simp only at h4
      obtain ⟨m,s3,h5,h6⟩ := bnd_some h4
      obtain ⟨hg,rfl⟩ := mapOf_some h5
      obtain ⟨f,s4,h7,h8⟩ := bnd_some h6
      obtain ⟨hf,rfl⟩ := lift_some h7
      obtain ⟨rfl,rfl⟩ := ret_some h8
      obtain ⟨L3,es',hL3,hw,hE,_,_⟩ := hR.mapAt hg
      rw [hL] at hL3; cases hL3
      obtain ⟨r',hr,hres⟩ := sim_findKey hT hpk w hkd hE hf
      have hget : (getObj L2.blk).run P w = .ok (.map es' m.2) w := by simp [getObj,Sem.run,hw]
      cases hres with
      | none =>
        refine ⟨rfl,_,?_,two (b := false) hzf.vrel⟩
        simp only [Instr.lookup,Sem.run_bind,run_und hT hd,Result.andThen_ok,Sem.run_pure,hget,hck,hr,run_zero hT hz]
      | some e1 e2 e3 e4 =>
        refine ⟨rfl,_,?_,two (b := true) e4⟩
        simp only [Instr.lookup,Sem.run_bind,run_und hT hd,Result.andThen_ok,Sem.run_pure,hget,hck,hr]
omit hT in
theorem run_stays {k : Value} (hp : plainKey k = true) (w : World) : (Instr.keyThatStays k k).run P w = .ok k w := by
  simp [Instr.keyThatStays,sameBits_plain hp 9998]
theorem sim_mapUpdate {φ : Phi} {B : Base} {s s' : St} {w : World} (hR : Rel φ B s.t.get w) {t : TypeId} {x x' k k' y y' : Value} {u : Unit} (hx : VRel φ x x') (hk : VRel φ k k') (hy : VRel φ y y') (h : mapUpdate T t x k y s = some (u,s')) :
    s'.next = s.next ∧ ∃ w',(Instr.mapUpdate t x' k' y').run P w = .ok () w' ∧ Rel φ B s'.t.get w' ∧ Keeps φ s.t.get w w' := by
  unfold mapUpdate at h
  obtain ⟨p,s1,h1,h2⟩ := bnd_some h
  obtain ⟨hm,rfl⟩ := lift_some h1
  obtain ⟨hd,hpk,hko⟩ := mapType_some hm
  obtain ⟨kd,hkd⟩ := keyOk_und hko
  have hke := plainKey_eq hk hpk
  subst hke
  have hck := fun em => run_keyOk hT em w 50 p.1 k' hpk hko 10000 (by decide)
  cases x <;> (try simp only at h2) <;> try (cases h2; done)
  rename_i r
  cases r with
  | none => cases h2
  | some r =>
    cases hx with
    | @map _ L2 hL =>
      simp only at h2
      obtain ⟨m,s3,h5,h6⟩ := bnd_some h2
      obtain ⟨hg,rfl⟩ := mapOf_some h5
      obtain ⟨f,s4,h7,h8⟩ := bnd_some h6
      obtain ⟨hf,rfl⟩ := lift_some h7
      obtain ⟨L3,es',hL3,hw,hE,hB,ho⟩ := hR.mapAt hg
      rw [hL] at hL3; cases hL3
      obtain ⟨r',hr,hres⟩ := sim_findKey hT hpk w hkd hE hf
      have hget : (getObj L2.blk).run P w = .ok (.map es' m.2) w := by simp [getObj,Sem.run,hw]
      cases hres with
      | none =>
        simp only at h8
        obtain ⟨_,rfl⟩ := setB_some h8
        obtain ⟨w',q1,q2,q3⟩ := hR.putMap hg hL hw hB ho (ns := ⟨m.1 ++ [{ key := k',val := y,born := m.2 }]⟩) (ns' := es'.push { key := k',val := y',born := m.2 }) (d := m.2 + 1) (by
          simp only [Array.toList_push]
          exact hE.snoc ⟨rfl,hk,hpk,hy⟩) P
        refine ⟨rfl,w',?_,?_,q3⟩
        · simp only [Instr.mapUpdate,Sem.run_bind,run_und hT hd,Result.andThen_ok,hget,hck,hr,q1]
        · simp only; rw [get_upd]; exact q2
      | @some i e e' e1 e2 e3 e4 =>
        simp only at h8
        obtain ⟨_,rfl⟩ := setB_some h8
        have hi : es'[i]? = some e' := by rw [← Array.getElem?_toList]; exact e2
        obtain ⟨w',q1,q2,q3⟩ := hR.putMap hg hL hw hB ho (ns := ⟨setVal m.1 i y⟩) (ns' := es'.modify i fun a => { a with key := k',val := y' }) (d := m.2) (by
          simp only [Array.toList_modify,setVal]
          refine hE.modify i fun a a' ha ha' hh => ⟨hh.1,?_,hh.2.2.1,hy⟩
          rw [e2] at ha'; cases ha'
          simp only
          rw [← e3]; exact hh.2.1) P
        refine ⟨rfl,w',?_,?_,q3⟩
        · have hs := run_stays (P := P) hpk w
          simp only [Instr.mapUpdate,Sem.run_bind,run_und hT hd,Result.andThen_ok,hget,hck,hr,hi,Option.map_some,Option.getD_some,e3,hs,q1]
        · simp only; rw [get_upd]; exact q2
theorem sim_mapEntry {φ : Phi} {B : Base} {s s' : St} {w : World} (hR : Rel φ B s.t.get w) {t : TypeId} {x x' k k' v : Value} (hx : VRel φ x x') (hk : VRel φ k k') (h : mapEntry T t x k s = some (v,s')) :
    Came φ B s w v s' ((Instr.mapEntry t x' k').run P w) := by
  unfold mapEntry at h
  obtain ⟨p,s1,h1,h2⟩ := bnd_some h
  obtain ⟨hm,rfl⟩ := lift_some h1
  obtain ⟨hd,hpk,hko⟩ := mapType_some hm
  obtain ⟨kd,hkd⟩ := keyOk_und hko
  have hke := plainKey_eq hk hpk
  subst hke
  have hck := fun em => run_keyOk hT em w 50 p.1 k' hpk hko 10000 (by decide)
  cases x <;> (try simp only at h2) <;> try (cases h2; done)
  rename_i r
  cases r with
  | none => cases h2
  | some r =>
    cases hx with
    | @map _ L2 hL =>
      simp only at h2
      obtain ⟨m,s3,h5,h6⟩ := bnd_some h2
      obtain ⟨hg,rfl⟩ := mapOf_some h5
      obtain ⟨f,s4,h7,h8⟩ := bnd_some h6
      obtain ⟨hf,rfl⟩ := lift_some h7
      obtain ⟨L3,es',hL3,hw,hE,hB,ho⟩ := hR.mapAt hg
      rw [hL] at hL3; cases hL3
      obtain ⟨r',hr,hres⟩ := sim_findKey hT hpk w hkd hE hf
      have hget : (getObj L2.blk).run P w = .ok (.map es' m.2) w := by simp [getObj,Sem.run,hw]
      cases hres with
      | none =>
        simp only at h8
        obtain ⟨z,s5,h9,h10⟩ := bnd_some h8
        obtain ⟨hz,rfl⟩ := lift_some h9
        obtain ⟨_,s6,h11,h12⟩ := bnd_some h10
        obtain ⟨_,rfl⟩ := setB_some h11
        obtain ⟨rfl,rfl⟩ := ret_some h12
        have hzf := (hT.zero _ _ hz).2
        obtain ⟨w',q1,q2,q3⟩ := hR.putMap hg hL hw hB ho (ns := ⟨m.1 ++ [{ key := k',val := z,born := m.2 }]⟩) (ns' := es'.push { key := k',val := z,born := m.2 }) (d := m.2 + 1) (by
          simp only [Array.toList_push]
          exact hE.snoc ⟨rfl,hk,hpk,hzf.vrel⟩) P
        refine ⟨φ,w',.tuple #[z,goInt m.2],?_,Nat.le_refl _,.refl _ _ _,?_,?_,q3⟩
        · simp only [Instr.mapEntry,Sem.run_bind,run_und hT hd,Result.andThen_ok,hget,hck,hr,run_zero hT hz,q1,Sem.run_pure]
        · simp only; rw [get_upd]; exact q2
        · exact .tuple _ _ rfl (LRel.cons hzf.vrel (.one (.int _ _))).2
      | @some i e e' e1 e2 e3 e4 =>
        simp only at h8
        obtain ⟨rfl,rfl⟩ := ret_some h8
        have hi : es'[i]? = some e' := by rw [← Array.getElem?_toList]; exact e2
        obtain ⟨w',q1,q2,q3⟩ := hR.putMap hg hL hw hB ho (ns := ⟨m.1⟩) (ns' := es'.modify i fun a => { a with key := k' }) (d := m.2) (by
          simp only [Array.toList_modify]
          have := hE.modify i (f := fun a => a) (f' := fun a => { a with key := k' }) fun a a' ha ha' hh => ⟨hh.1,by
            rw [e2] at ha'; cases ha'
            simp only
            rw [← e3]; exact hh.2.1,hh.2.2.1,hh.2.2.2⟩
          have hid : m.1.modify i (fun a => a) = m.1 := by
            apply List.ext_getElem?
            intro j
            rw [List.getElem?_modify]
            cases m.1[j]? <;> simp
          rwa [hid] at this) P
        rw [upd_self hg] at q2
        refine ⟨φ,w',.tuple #[e'.val,goInt e'.born],?_,Nat.le_refl _,.refl _ _ _,q2,?_,q3⟩
        · have hs := run_stays (P := P) hpk w
          simp only [Instr.mapEntry,Sem.run_bind,run_und hT hd,Result.andThen_ok,hget,hck,hr,hi,Option.map_some,Option.getD_some,e3,hs,q1,Sem.run_pure]
        · have hb : e.born = e'.born := (hE.2 i e e' e1 e2).1
          refine .tuple _ _ rfl (LRel.cons e4 (.one ?_)).2
          rw [e1,Option.map_some,Option.getD_some,hb]
          exact .int _ _
omit hT in
theorem sim_bornAt {φ : Phi} {n : Int} : ∀ {l l' : List MapEntry} {i j : Nat},ERel φ l l' → bornAt n l i = some j → ∃ q,j = i + q ∧ l'.findIdx? (fun e => (e.born : Int) == n) = some q
  | [],l',i,j,_,h => by cases h
  | e :: l,l',i,j,hE,h => by
    obtain ⟨e',q',rfl,⟨hb,_⟩,hr2⟩ := hE.cons_inv
    unfold bornAt at h
    split at h
    · rename_i hc
      cases h
      rw [hb] at hc
      exact ⟨0,rfl,by simp only [List.findIdx?_cons,hc,if_true]⟩
    · rename_i hc
      obtain ⟨q,rfl,hq⟩ := sim_bornAt hr2 h
      rw [hb] at hc
      refine ⟨q + 1,by omega,?_⟩
      simp only [List.findIdx?_cons,hc,if_false,hq,Bool.false_eq_true]
      rfl
omit hT in
theorem sim_entryStore {φ : Phi} {B : Base} {s s' : St} {w : World} (hR : Rel φ B s.t.get w) {t : TypeId} {x x' k k' y y' : Value} {u : Unit} (hx : VRel φ x x') (hk : VRel φ k k') (hy : VRel φ y y') (h : entryStore x k y s = some (u,s')) :
    s'.next = s.next ∧ ∃ w',(Instr.entryStore t x' k' y').run P w = .ok () w' ∧ Rel φ B s'.t.get w' ∧ Keeps φ s.t.get w w' := by
  unfold entryStore at h
  split at h
  · rename_i r
    split at h
    · rename_i kk n
      cases hk
      cases hx with
      | @map _ L2 hL =>
        obtain ⟨m,s3,h5,h6⟩ := bnd_some h
        obtain ⟨hg,rfl⟩ := mapOf_some h5
        obtain ⟨i,s4,h7,h8⟩ := bnd_some h6
        obtain ⟨hi,rfl⟩ := lift_some h7
        obtain ⟨_,rfl⟩ := setB_some h8
        obtain ⟨L3,es',hL3,hw,hE,hB,ho⟩ := hR.mapAt hg
        rw [hL] at hL3; cases hL3
        obtain ⟨q,hq,hfi⟩ := sim_bornAt hE hi
        rw [Nat.zero_add] at hq
        subst hq
        have hget : (getObj L2.blk).run P w = .ok (.map es' m.2) w := by simp [getObj,Sem.run,hw]
        obtain ⟨w',q1,q2,q3⟩ := hR.putMap hg hL hw hB ho (ns := ⟨setVal m.1 i y⟩) (ns' := es'.modify i fun a => { a with val := y' }) (d := m.2) (by
          simp only [Array.toList_modify,setVal]
          exact hE.modify i fun a a' ha ha' hh => ⟨hh.1,hh.2.1,hh.2.2.1,hy⟩) P
        have hfi' : es'.findIdx? (fun e => (e.born : Int) == n) = some i := by obtain ⟨es'⟩ := es'; simpa using hfi
        refine ⟨rfl,w',?_,?_,q3⟩
        · simp only [Instr.entryStore,Sem.run_bind,Sem.run_pure,Result.andThen_ok,hget,Go.asInt,Go.asIntOf,hfi',q1]
        · simp only; rw [get_upd]; exact q2
    · cases h
  · cases h
theorem sim_makeMap {φ : Phi} {B : Base} {s s' : St} {w : World} (hR : Rel φ B s.t.get w) (hf : Fresh φ s.next s'.next) {t : TypeId} {r r' : Option Value} (hr : QRel φ r r') {v : Value} (h : makeMap T t r s = some (v,s')) :
    Came φ B s w v s' ((Instr.makeMap t r').run P w) := by
  unfold makeMap at h
  have fin : ∀ {m : M Value},m = (bnd (newB (.obj (.map #[] 0))) fun N => ret (.map (some N))) → m s = some (v,s') → Came φ B s w v s' (.ok (.map (some w.heap.size)) (w.alloc (.map #[] 0))) := fun {m} hm h => by
    subst hm
    obtain ⟨N,s1,h1,h2⟩ := bnd_some h
    obtain ⟨rfl,rfl⟩ := newB_some h1
    obtain ⟨rfl,rfl⟩ := ret_some h2
    have hfr : φ s.next = none := hf s.next (Nat.le_refl _) (by simp)
    have hRn := hR.new hfr (.obj (.map #[] 0)) (.map #[] 0) ⟨w.heap.size,0,0⟩ rfl ⟨_,heap_alloc_new _ _,⟨rfl,rfl,fun i e e' he => by simp at he⟩,hR.newOk,rfl⟩
    refine ⟨_,_,_,rfl,by simp,.add _ hfr hR.newOk,by simp only; rw [get_upd]; exact hRn,?_,.alloc _ _ _ _⟩
    exact VRel.map (L := ⟨w.heap.size,0,0⟩) (Phi.add_same _ _ _)
  cases hd : T.und t with
  | none => rw [hd] at h; cases h
  | some d =>
    rw [hd] at h
    cases d <;> (try simp only at h) <;> try (cases h; done)
    cases hr with
    | none =>
      have := fin rfl h
      have e : (Instr.makeMap t none).run P w = .ok (.map (some w.heap.size)) (w.alloc (.map #[] 0)) := by simp [Instr.makeMap]
      rw [e]; exact this
    | some hv =>
      cases hv <;> (try simp only at h) <;> try (cases h; done)
      rename_i k n
      have := fin rfl h
      have e : (Instr.makeMap t (some (.int k n))).run P w = .ok (.map (some w.heap.size)) (w.alloc (.map #[] 0)) := by simp [Instr.makeMap,run_und hT hd,Go.asInt,Go.asIntOf]
      rw [e]; exact this
theorem sim_cap {φ : Phi} {s s' : St} {w : World} {ts : Array TypeId} {ty : TypeId} {args args' : List Value} (ha : LRel φ args args') {v : Value} (h : capOf T ts.toList args s = some (v,s')) :
    s' = s ∧ (Builtin.cap_ ts ty ⟨args'⟩).run P w = .ok v w ∧ Flat v := by
  obtain ⟨ts⟩ := ts
  cases ts with
  | nil => cases h
  | cons t ts =>
    cases args with
    | nil => cases h
    | cons x args =>
      cases args with
      | cons y args => cases x <;> cases h
      | nil =>
        cases x <;> try (cases h; done)
        rename_i a n c
        obtain ⟨x',r',rfl,hx,hr⟩ := ha.cons_inv
        obtain rfl := hr.nil_inv
        have h : (match T.und t with | some (.slice _) => if c < END then ret (goInt c) else fail | _ => fail) s = some (v,s') := h
        cases hd : T.und t with
        | none => rw [hd] at h; cases h
        | some d =>
          rw [hd] at h
          cases d <;> (try simp only at h) <;> try (cases h; done)
          by_cases hc : c < END
          · rw [if_pos hc] at h
            obtain ⟨rfl,rfl⟩ := ret_some h
            refine ⟨rfl,?_,.int _ _⟩
            cases hx with
            | sliceNil => simp [Builtin.cap_,run_und hT hd]
            | sliceEx => simp [Builtin.cap_,run_und hT hd]
            | sliceEnd => simp only [END] at hc; omega
            | sliceGone => simp only [END] at hc; omega
          · rw [if_neg hc] at h; cases h
end
end Go.Ev

/-
  EV, PART L: each operation that calls no function of the program.
-/
namespace Go.Ev
open Go Go.RowKit
def NRel (φ : Phi) (v : Value) (nx : Next) : Prop := (∃ v',nx = .value v' ∧ VRel φ v v') ∨ (nx = .skip ∧ v = undef)
def OpCame (φ : Phi) (B : Base) (s : St) (w : World) (v : Value) (s' : St) (r : Result Next) : Prop :=
  ∃ φ' w' nx,r = .ok nx w' ∧ s.next ≤ s'.next ∧ Grows B φ φ' s.next s'.next ∧ Rel φ' B s'.t.get w' ∧ NRel φ' v nx ∧ Keeps φ s.t.get w w'
theorem Came.op {φ : Phi} {B : Base} {s s' : St} {w : World} {v : Value} {P : Program} {m : Sem Value} (h : Came φ B s w v s' (m.run P w)) : OpCame φ B s w v s' ((do pure (.value (← m)) : Sem Next).run P w) := by
  obtain ⟨φ',w',v',h1,h2,h3,h4,h5,h6⟩ := h
  exact ⟨φ',w',.value v',by simp [h1],h2,h3,h4,.inl ⟨v',rfl,h5⟩,h6⟩
def opOk (globs : Nat) (o : Op) : Bool := o.operands.toList.all (operandOk globs)
theorem QRel.map {φ : Phi} {ρ ρ' : Operand → Value} : ∀ (x : Option Operand),(∀ y,x = Option.some y → VRel φ (ρ y) (ρ' y)) → QRel φ (x.map ρ) (x.map ρ')
  | Option.none,_ => .none
  | Option.some y,h => .some (h y rfl)
theorem LRel.map {φ : Phi} {ρ ρ' : Operand → Value} : ∀ (l : List Operand),(∀ y ∈ l,VRel φ (ρ y) (ρ' y)) → LRel φ (l.map ρ) (l.map ρ')
  | [],_ => .nil
  | y :: l,h => .cons (h y (by simp)) (LRel.map l fun z hz => h z (by simp [hz]))
section
variable {T : Tab} {P : Program} (hT : T.Ok P)
include hT
theorem sim_range {φ : Phi} {B : Base} {s s' : St} {w : World} (hR : Rel φ B s.t.get w) (hf : Fresh φ s.next s'.next) {t : TypeId} {x x' v : Value} (hx : VRel φ x x')
    (h : rangeOp T t x s = some (v,s')) : Came φ B s w v s' ((Instr.range t x').run P w) := by
  unfold rangeOp at h
  rcases hd : T.und t with _ | d
  · simp [hd,fail] at h
  cases d <;> (try simp only [hd] at h) <;> try (cases h; done)
  cases hx <;> (try simp only at h) <;> try (cases h; done)
  rename_i str
  obtain ⟨N,s1,h1,h2⟩ := bnd_some h
  obtain ⟨rfl,rfl⟩ := newB_some h1
  obtain ⟨rfl,rfl⟩ := ret_some h2
  have hfr : φ s.next = none := hf s.next (Nat.le_refl _) (by simp)
  have hRn := hR.new hfr (.obj (.stringIter str 0)) (.stringIter str 0) ⟨w.heap.size,0,0⟩ rfl ⟨_,heap_alloc_new _ _,⟨rfl,rfl⟩,hR.newOk,rfl⟩
  refine ⟨_,w.alloc (.stringIter str 0),.pointer (some ⟨w.heap.size,0,none⟩),?_,by simp,.add _ hfr hR.newOk,by simp only; rw [get_upd]; exact hRn,?_,.alloc _ _ _ _⟩
  · simp [Instr.range,run_und hT hd]
  · exact VRel.ptr (L := ⟨w.heap.size,0,0⟩) (Phi.add_same _ _ _)
omit hT in
theorem sim_next {φ : Phi} {B : Base} {s s' : St} {w : World} (hR : Rel φ B s.t.get w) {x x' v : Value} {isS : Bool} {ty : TypeId} (hx : VRel φ x x')
    (h : nextOp x isS s = some (v,s')) : Came φ B s w v s' ((Instr.next x' isS ty).run P w) := by
  unfold nextOp at h
  split at h
  · rename_i N
    simp only at h
    split at h
    · rename_i str pos hN
      cases hx with
      | @ptr _ _ L hL =>
        obtain ⟨L2,hL2,o',k1,k2,k3,k4⟩ := hR.blk N _ hN
        rw [hL] at hL2; cases hL2
        cases o' <;> simp only [ORel] at k2 <;> try (exact k2.elim)
        obtain ⟨rfl,rfl⟩ := k2
        have hget : (getObj L.blk).run P w = .ok (.stringIter str pos) w := by simp [getObj,Sem.run,k1]
        rw [k4]
        split at h
        · rename_i hlt
          generalize hdec : Utf8.decode str pos = cw at h
          obtain ⟨c,width⟩ := cw
          simp only at h
          obtain ⟨_,s1,h1,h2⟩ := bnd_some h
          obtain ⟨_,rfl⟩ := setB_some h1
          obtain ⟨rfl,rfl⟩ := ret_some h2
          have hset : (setObj L.blk (.stringIter str (pos + width))).run P w = .ok () { w with heap := w.heap.setIfInBounds L.blk (.stringIter str (pos + width)) } := by
            simp [setObj,Sem.run,k1]
          have hb : L.blk < w.heap.size := hR.inw _ _ hL
          refine ⟨φ,{ w with heap := w.heap.setIfInBounds L.blk (.stringIter str (pos + width)) },.tuple #[.bool true,goInt pos,.int .i32 c],?_,by simp,.refl _ _ _,?_,?_,?_⟩
          · simp [Instr.next,hget,hlt,hdec,hset]
          · simp only
            rw [get_upd]
            refine hR.set hN hL trivial _ (by simp) (fun k hk => by simp [Array.getElem?_setIfInBounds,Ne.symm hk]) ⟨.stringIter str (pos + width),by simp [Array.getElem?_setIfInBounds,hb],⟨rfl,rfl⟩,k3,k4⟩
          · exact (Flat.tuple _ (fun i v hv => by
              rcases i with _ | _ | _ | i <;> simp at hv <;> subst hv <;> constructor)).vrel
          · exact Keeps.set hN hL trivial rfl rfl rfl (by simp) (fun k hk => by simp [Array.getElem?_setIfInBounds,Ne.symm hk])
        · rename_i hlt
          simp at h
          obtain ⟨rfl,rfl⟩ := h
          refine .same hR (v' := .tuple #[.bool false]) ?_ (Flat.tuple _ (fun i v hv => by rcases i with _ | i <;> simp at hv; subst hv; constructor)).vrel
          simp [Instr.next,hget,hlt]
    · cases h
  · cases h
theorem sim_builtin {φ : Phi} {B : Base} (hBz : B.sz = P.cellsOf) {s s' : St} {w : World} (hR : Rel φ B s.t.get w) (hf : Fresh φ s.next s'.next) {b : Builtin} {ts : Array TypeId} {ty : TypeId} {consts : Array Bool} {args args' : List Value} (ha : LRel φ args args') {v : Value}
    (h : builtin T b ts.toList args s = some (v,s')) : OpCame φ B s w v s' ((Go.builtin b ts ty consts ⟨args'⟩).run P w) := by
  cases b <;> simp only [builtin] at h <;> try (cases h; done)
  · exact (sim_append hT hBz hR hf ha h).op
  · obtain ⟨rfl,h2,h3⟩ := sim_cap hT (ty := ty) ha h
    exact (Came.same hR h2 h3.vrel).op
  · exact (sim_clear hT hR ha h).op
  · exact (sim_copy hT hR ha h).op
  · obtain ⟨rfl,h2,h3⟩ := sim_len hT (ty := ty) hR ha h
    exact (Came.same hR h2 h3.vrel).op
  · obtain ⟨h1,rfl⟩ := lift_some h
    obtain ⟨h2,h3⟩ := sim_minmax (P := P) true w h1 ha ts ty
    exact (Came.same hR h2 h3).op
  · obtain ⟨h1,rfl⟩ := lift_some h
    obtain ⟨h2,h3⟩ := sim_minmax (P := P) false w h1 ha ts ty
    exact (Came.same hR h2 h3).op
  · -- unsafe.SliceData
    obtain ⟨h1,rfl⟩ := lift_some h
    unfold sliceData at h1
    split at h1
    · cases h1
      obtain ⟨x',r',rfl,hx,hr⟩ := ha.cons_inv
      obtain rfl := hr.nil_inv
      cases hx
      refine Came.op (m := Builtin.unsafeSliceData_ ts ty _) (.same hR ?_ .ptrNil)
      rfl
    · rename_i N o l c
      obtain ⟨x',r',rfl,hx,hr⟩ := ha.cons_inv
      obtain rfl := hr.nil_inv
      split at h1
      · rename_i hc
        cases h1
        have fin : ∀ (a : Addr) (c' : Nat),c' ≠ 0 → (Builtin.unsafeSliceData_ ts ty #[.slice (some a) l c']).run P w = .ok (.pointer (some a)) w := fun a c' h0 => by
          change Sem.run P (if c' ≠ 0 then _ else _) w = _
          rw [if_pos h0]; rfl
        cases hx with
        | sliceEx _ _ hL _ => exact Came.op (m := Builtin.unsafeSliceData_ ts ty _) (.same hR (fin _ _ hc.2) (.ptr hL))
        | sliceEnd _ _ _ hL _ hl _ => exact Came.op (m := Builtin.unsafeSliceData_ ts ty _) (.same hR (fin _ _ (by omega)) (.ptr hL))
        | sliceGone => omega
      · cases h1
    · cases h1
  · exact (sim_unsafeString hT hBz hR ha h).op
set_option maxHeartbeats 1000000 in
theorem sim_plain {φ : Phi} {B : Base} (hBz : B.sz = P.cellsOf) {s s' : St} {w : World} (hR : Rel φ B s.t.get w) (hf : Fresh φ s.next s'.next) {ρ ρ' : Operand → Value} {o : Oper} (hρ : ∀ x ∈ o.op.operands.toList,VRel φ (ρ x) (ρ' x)) {v : Value} (h : evPlain T ρ o.op s = some (v,s')) : OpCame φ B s w v s' ((execOp ρ' o).run P w) := by
  obtain ⟨dst,op,ty,pos,after,guard⟩ := o
  simp only at hρ h
  have pure1 : ∀ {v v' : Value} {m : Sem Value},s' = s → m.run P w = .ok v' w → VRel φ v v' → OpCame φ B s w v s' ((do pure (.value (← m)) : Sem Next).run P w) := fun hs hm hv => by
    subst hs; exact (Came.same hR hm hv).op
  have ok1 : ∀ {x : Operand},x ∈ op.operands.toList → VRel φ (ρ x) (ρ' x) := fun {x} hx => hρ x hx
  cases op with
  | move x => obtain ⟨rfl,rfl⟩ := ret_some h; exact (Came.same hR (r := .ok (ρ' x) w) rfl (ok1 (by simp [Op.operands]))).op (m := pure (ρ' x))
  | assign x => obtain ⟨rfl,rfl⟩ := ret_some h; exact (Came.same hR (r := .ok (ρ' x) w) rfl (ok1 (by simp [Op.operands]))).op (m := pure (ρ' x))
  | pick c a b =>
    obtain ⟨h1,rfl⟩ := lift_some h
    have hc : VRel φ (ρ c) (ρ' c) := ok1 (by simp [Op.operands])
    have ha : VRel φ (ρ a) (ρ' a) := ok1 (by simp [Op.operands])
    have hb : VRel φ (ρ b) (ρ' b) := ok1 (by simp [Op.operands])
    generalize ρ c = vc at h1 hc
    cases vc <;> simp only [pickOf] at h1 <;> try (cases h1; done)
    rename_i t
    cases h1
    generalize hvc : ρ' c = vc' at hc
    cases hc
    refine ⟨φ,w,.value (if t then ρ' a else ρ' b),?_,Nat.le_refl _,.refl _ _ _,hR,.inl ⟨_,rfl,?_⟩,.refl _ _ _⟩
    · simp [execOp,hvc,asBool]
    · cases t <;> assumption
  | alloc elem =>
    obtain ⟨z,s1,h1,h2⟩ := bnd_some h
    obtain ⟨hz,rfl⟩ := lift_some h1
    have := sim_newVar hT hR hf (hT.zero _ _ hz).2.vrel h2
    have e : (Instr.alloc elem true (.tuple #[])).run P w = (do pure (.pointer (some (← newVar elem z))) : Sem Value).run P w := by
      simp [Instr.alloc,run_zero hT hz]
    rw [← e] at this
    exact this.op
  | box elem x =>
    exact (sim_newVar hT hR hf (ok1 (by simp [Op.operands])) h).op (m := Instr.box elem (ρ' x))
  | build t parts =>
    obtain ⟨h1,rfl⟩ := lift_some h
    obtain ⟨v',hr,hv⟩ := sim_build (parts' := parts.toList.map fun p => (p.1,ρ' p.2)) hT h1 (by simp) (fun i p p' hp hp' => by
      rw [List.getElem?_map] at hp hp'
      obtain ⟨q,hq,rfl⟩ := Option.map_eq_some_iff.1 hp
      rw [hq] at hp'; cases hp'
      exact ⟨rfl,ok1 (by simp [Op.operands]; exact ⟨_,by simpa using List.mem_of_getElem? hq⟩)⟩) w
    have e : (parts.map fun (x : Nat × Operand) => (x.1,ρ' x.2)) = ⟨parts.toList.map fun p => (p.1,ρ' p.2)⟩ := by apply Array.ext'; simp
    refine pure1 rfl (m := Instr.build t (parts.map fun (x : Nat × Operand) => (x.1,ρ' x.2))) ?_ hv
    rw [e]; exact hr
  | buildSlice t n parts =>
    have := sim_buildSlice (parts' := parts.toList.map fun p => (p.1,ρ' p.2)) hT hR hf h (by simp) (fun i p p' hp hp' => by
      rw [List.getElem?_map] at hp hp'
      obtain ⟨q,hq,rfl⟩ := Option.map_eq_some_iff.1 hp
      rw [hq] at hp'; cases hp'
      exact ⟨rfl,ok1 (by simp [Op.operands]; exact ⟨_,by simpa using List.mem_of_getElem? hq⟩)⟩)
    have e : (parts.map fun (x : Nat × Operand) => (x.1,ρ' x.2)) = ⟨parts.toList.map fun p => (p.1,ρ' p.2)⟩ := by apply Array.ext'; simp
    rw [← e] at this
    exact this.op
  | load t a =>
    obtain ⟨rfl,v',hr,hv⟩ := sim_load hT hR (ok1 (x := a) (by simp [Op.operands])) h
    exact pure1 rfl hr hv
  | store t a x =>
    obtain ⟨_,s1,h1,h2⟩ := bnd_some h
    obtain ⟨rfl,rfl⟩ := ret_some h2
    obtain ⟨hn,w',hr,hR',hK⟩ := sim_store hT hR (ok1 (x := a) (by simp [Op.operands])) (ok1 (x := x) (by simp [Op.operands])) h1
    exact ⟨φ,w',.skip,by simp [execOp,hr],by omega,.refl _ _ _,hR',.inr ⟨rfl,rfl⟩,hK⟩
  | nilCheck x =>
    obtain ⟨h1,rfl⟩ := lift_some h
    have hx : VRel φ (ρ x) (ρ' x) := ok1 (by simp [Op.operands])
    refine ⟨φ,w,.value (ρ' x),?_,Nat.le_refl _,.refl _ _ _,hR,.inl ⟨_,rfl,?_⟩,.refl _ _ _⟩
    · generalize ρ x = vx at h1 hx
      simp only [execOp]
      generalize ρ' x = vx' at hx
      cases hx <;> simp only [nilChecked] at h1 <;> first
        | (cases h1; done)
        | rfl
    · generalize ρ x = vx at h1 hx
      generalize ρ' x = vx' at hx ⊢
      have hx0 := hx
      cases hx <;> simp only [nilChecked] at h1 <;> first
        | (cases h1; done)
        | (cases h1; exact hx0)
  | binOp op t x y yt =>
    obtain ⟨h1,rfl⟩ := lift_some h
    obtain ⟨v',hr,hv⟩ := sim_binop hT op t x y h1 (ok1 (x := x) (by simp [Op.operands])) (ok1 (x := y) (by simp [Op.operands])) w
    exact pure1 rfl hr hv
  | unOp op t x =>
    obtain ⟨h1,rfl⟩ := lift_some h
    obtain ⟨v',hr,hv⟩ := sim_unop (P := P) hT op h1 (ok1 (x := x) (by simp [Op.operands])) w
    exact pure1 rfl hr hv
  | convert src dst x => exact (sim_convert hT hBz hR hf (ok1 (x := x) (by simp [Op.operands])) h).op
  | makeInterface t x =>
    obtain ⟨h1,rfl⟩ := lift_some h
    unfold makeIface at h1
    have hx : VRel φ (ρ x) (ρ' x) := ok1 (by simp [Op.operands])
    rcases hd : T.und t with _ | d
    · simp [hd] at h1
    · refine pure1 rfl (v' := .iface t (ρ' x)) (m := Instr.makeInterface t (ρ' x)) ?_ ?_
      · cases d <;> simp only [hd] at h1 <;> first
          | (cases h1; done)
          | simp [Instr.makeInterface,run_und hT hd]
      · cases d <;> simp only [hd] at h1 <;> first
          | (cases h1; done)
          | (cases h1; exact .iface t hx)
  | makeFunc fn first captured =>
    cases fn <;> (try simp only at h) <;> try (cases h; done)
    rename_i g
    obtain ⟨rfl,rfl⟩ := ret_some h
    have h1 : LRel φ (first.toList.map ρ) (first.toList.map ρ') := LRel.map _ fun y hy => hρ y (by simp [Op.operands]; exact .inl (by simpa using hy))
    have h2 : LRel φ (captured.toList.map ρ) (captured.toList.map ρ') := LRel.map _ fun y hy => hρ y (by simp [Op.operands]; exact .inr (by simpa using hy))
    refine pure1 rfl (m := Instr.makeFunc (.func g) (first.map ρ') (captured.map ρ')) (v' := .func (.func g) (first.map ρ') (captured.map ρ')) rfl ?_
    have e1 : (first.map ρ').toList = first.toList.map ρ' := by simp
    have e2 : (captured.map ρ').toList = captured.toList.map ρ' := by simp
    exact .func g _ _ _ _ (by rw [e1]; exact h1.1) (by rw [e1]; exact h1.2) (by rw [e2]; exact h2.1) (by rw [e2]; exact h2.2)
  | makeSlice t l c => exact (sim_makeSlice hT hR hf (ok1 (x := l) (by simp [Op.operands])) (ok1 (x := c) (by simp [Op.operands])) h).op
  | slice t x lo hi mx =>
    simp only [evPlain] at h
    split at h
    · cases h
    · rename_i hms
      obtain ⟨h1,rfl⟩ := lift_some h
      obtain ⟨v',hr,hv⟩ := sim_sliceOp hT h1 (ok1 (x := x) (by simp [Op.operands])) (QRel.map lo fun y hy => hρ y (by simp [Op.operands,hy])) (QRel.map hi fun y hy => hρ y (by simp [Op.operands,hy]))
        (QRel.map mx fun y hy => hρ y (by simp [Op.operands,hy])) (fun hm => by cases mx <;> cases hi <;> simp_all) w
      exact pure1 rfl hr hv
  | fieldAddr st x i =>
    obtain ⟨h1,rfl⟩ := lift_some h
    obtain ⟨v',hr,hv⟩ := sim_fieldAddr hT h1 (ok1 (x := x) (by simp [Op.operands])) w
    exact pure1 rfl hr hv
  | field t x i =>
    obtain ⟨h1,rfl⟩ := lift_some h
    obtain ⟨v',hr,hv⟩ := sim_field hT h1 (ok1 (x := x) (by simp [Op.operands])) w
    exact pure1 rfl hr hv
  | indexAddr t x i =>
    obtain ⟨h1,rfl⟩ := lift_some h
    obtain ⟨v',hr,hv⟩ := sim_indexAddr hT h1 (ok1 (x := x) (by simp [Op.operands])) (ok1 (x := i) (by simp [Op.operands])) w
    exact pure1 rfl hr hv
  | index t x i =>
    obtain ⟨h1,rfl⟩ := lift_some h
    obtain ⟨v',hr,hv⟩ := sim_index hT h1 (ok1 (x := x) (by simp [Op.operands])) (ok1 (x := i) (by simp [Op.operands])) w
    exact pure1 rfl hr hv
  | makeMap t r => exact (sim_makeMap hT hR hf (QRel.map r fun y hy => hρ y (by simp [Op.operands,hy])) h).op
  | lookup t x k ok =>
    obtain ⟨rfl,v',hr,hv⟩ := sim_lookup hT hR (ok1 (x := x) (by simp [Op.operands])) (ok1 (x := k) (by simp [Op.operands])) h
    exact pure1 rfl hr hv
  | mapUpdate t x k y =>
    obtain ⟨_,s1,h1,h2⟩ := bnd_some h
    obtain ⟨rfl,rfl⟩ := ret_some h2
    obtain ⟨hn,w',hr,hR',hK⟩ := sim_mapUpdate hT hR (ok1 (x := x) (by simp [Op.operands])) (ok1 (x := k) (by simp [Op.operands])) (ok1 (x := y) (by simp [Op.operands])) h1
    exact ⟨φ,w',.skip,by simp [execOp,hr],by omega,.refl _ _ _,hR',.inr ⟨rfl,rfl⟩,hK⟩
  | insert t x k y =>
    obtain ⟨_,s1,h1,h2⟩ := bnd_some h
    obtain ⟨rfl,rfl⟩ := ret_some h2
    obtain ⟨hn,w',hr,hR',hK⟩ := sim_mapUpdate hT hR (ok1 (x := x) (by simp [Op.operands])) (ok1 (x := k) (by simp [Op.operands])) (ok1 (x := y) (by simp [Op.operands])) h1
    exact ⟨φ,w',.skip,by simp [execOp,hr],by omega,.refl _ _ _,hR',.inr ⟨rfl,rfl⟩,hK⟩
  | mapEntry t x k => exact (sim_mapEntry hT hR (ok1 (x := x) (by simp [Op.operands])) (ok1 (x := k) (by simp [Op.operands])) h).op
  | entryStore t x k y =>
    obtain ⟨_,s1,h1,h2⟩ := bnd_some h
    obtain ⟨rfl,rfl⟩ := ret_some h2
    obtain ⟨hn,w',hr,hR',hK⟩ := sim_entryStore (P := P) (t := t) hR (ok1 (x := x) (by simp [Op.operands])) (ok1 (x := k) (by simp [Op.operands])) (ok1 (x := y) (by simp [Op.operands])) h1
    exact ⟨φ,w',.skip,by simp [execOp,hr],by omega,.refl _ _ _,hR',.inr ⟨rfl,rfl⟩,hK⟩
  | range t x => exact (sim_range hT hR hf (ok1 (x := x) (by simp [Op.operands])) h).op
  | next it isS => exact (sim_next (P := P) hR (ok1 (x := it) (by simp [Op.operands])) h).op
  | typeAssert x xt a ok =>
    obtain ⟨h1,rfl⟩ := lift_some h
    obtain ⟨v',hr,hv⟩ := sim_typeAssert (xt := xt) hT h1 (ok1 (x := x) (by simp [Op.operands])) w
    exact pure1 rfl hr hv
  | extract t i =>
    obtain ⟨h1,rfl⟩ := lift_some h
    have hx : VRel φ (ρ t) (ρ' t) := ok1 (by simp [Op.operands])
    generalize ρ t = vx at h1 hx
    have : ∃ v',(Instr.extract (ρ' t) i).run P w = .ok v' w ∧ VRel φ v v' := by
      generalize ρ' t = vx' at hx
      cases hx <;> simp only [extractOf] at h1 <;> try (cases h1; done)
      rename_i a a' hl hv
      obtain ⟨v',q1,q2⟩ := LRel.get ⟨hl,hv⟩ h1
      rw [Array.getElem?_toList] at q1
      exact ⟨v',by simp [Instr.extract,q1],q2⟩
    obtain ⟨v',hr,hv⟩ := this
    exact pure1 rfl hr hv
  | call c =>
    obtain ⟨callee,args,ts⟩ := c
    cases callee <;> (try simp only at h) <;> try (cases h; done)
    rename_i b
    have ha : LRel φ (args.toList.map ρ) (args.toList.map ρ') := LRel.map _ fun y hy => hρ y (by simp [Op.operands,Call.operands]; simpa using hy)
    have e : args.map ρ' = ⟨args.toList.map ρ'⟩ := by apply Array.ext'; simp
    have := sim_builtin (ty := ty) (consts := args.map fun | .const _ => true | _ => false) hT hBz hR hf ha h
    obtain ⟨φ',w',nx,q1,q2⟩ := this
    refine ⟨φ',w',nx,?_,q2⟩
    simp only [execOp,resolve,Sem.run_bind,Sem.run_pure,Result.andThen_ok,invoke]
    rw [e]; exact q1
  | _ => cases h
end
end Go.Ev

/-
  EV, PART M: the machine's steps, one by one, for whatever frame (a round of a loop over a function, too).
-/
namespace Go.Ev
open Go Go.RowKit
section
variable {P : Program} {fc : Frame} {cs : List Frame} {w : World} {k : List Item}
theorem st_seq {a b : Code} (hm : fc.mode = .run) (ht : fc.todo = .code (.seq a b) :: k) : step P (lone fc cs w) = .next (lone { fc with todo := .code a :: .code b :: k } cs w) :=
  step_lone_go (by cases fc; simp only at hm ht; subst hm ht; simp [stepG,stepG.exec])
theorem st_skip (hm : fc.mode = .run) (ht : fc.todo = .code .skip :: k) : step P (lone fc cs w) = .next (lone { fc with todo := k } cs w) :=
  step_lone_go (by cases fc; simp only at hm ht; subst hm ht; simp [stepG,stepG.exec])
theorem st_inBlock {id : Nat} (hm : fc.mode = .run) (ht : fc.todo = .inBlock id :: k) : step P (lone fc cs w) = .next (lone { fc with todo := k } cs w) :=
  step_lone_go (by cases fc; simp only at hm ht; subst hm ht; simp [stepG,stepG.exec])
theorem st_block {id : Nat} {b : Code} (hm : fc.mode = .run) (ht : fc.todo = .code (.block id b) :: k) : step P (lone fc cs w) = .next (lone { fc with todo := .code b :: .inBlock id :: k } cs w) :=
  step_lone_go (by cases fc; simp only at hm ht; subst hm ht; simp [stepG,stepG.exec])
theorem st_loop {b : Code} (hm : fc.mode = .run) (ht : fc.todo = .code (.loop b) :: k) : step P (lone fc cs w) = .next (lone { fc with todo := .code b :: .inLoop b :: k } cs w) :=
  step_lone_go (by cases fc; simp only at hm ht; subst hm ht; simp [stepG,stepG.exec])
theorem st_inLoop {b : Code} (hm : fc.mode = .run) (ht : fc.todo = .inLoop b :: k) : step P (lone fc cs w) = .next (lone { fc with todo := .code b :: .inLoop b :: k } cs w) :=
  step_lone_go (by cases fc; simp only at hm ht; subst hm ht; simp [stepG,stepG.exec])
theorem st_cond {c : Operand} {a b : Code} {t : Bool} (hm : fc.mode = .run) (ht : fc.todo = .code (.cond c a b) :: k) (hc : fc.eval c = .bool t) :
    step P (lone fc cs w) = .next (lone { fc with todo := .code (if t then a else b) :: k } cs w) :=
  step_lone_go (by cases fc; simp only at hm ht; subst hm ht; simp [stepG,stepG.exec,hc])
theorem st_exit {id : Nat} {k' : List Item} (hm : fc.mode = .run) (ht : fc.todo = .code (.exit id) :: k) (he : exitTo id k = some k') :
    step P (lone fc cs w) = .next (lone { fc with todo := k' } cs w) :=
  step_lone_go (by cases fc; simp only at hm ht; subst hm ht; simp [stepG,stepG.exec,he])
theorem st_ret (hm : fc.mode = .run) (hr : fc.roundOf = none) (ht : fc.todo = .code .ret :: k) : step P (lone fc cs w) = .next (lone { fc with mode := .returning } cs w) :=
  step_lone_go (by cases fc; simp only at hm ht hr; subst hm ht hr; simp [stepG,stepG.exec])
theorem st_end (hm : fc.mode = .run) (hr : fc.roundOf = none) (ht : fc.todo = []) : step P (lone fc cs w) = .next (lone { fc with mode := .returning } cs w) :=
  step_lone_go (by cases fc; simp only at hm ht hr; subst hm ht hr; simp [stepG,stepG.exec])
theorem st_region {id : Nat} {ops : Array Oper} (hm : fc.mode = .run) (ht : fc.todo = .code (.region id ops false) :: k) :
    step P (lone fc cs w) = .next (lone { fc with todo := .inRegion ops (List.range ops.size) :: k } cs w) :=
  step_lone_go (by cases fc; simp only at hm ht; subst hm ht; simp [stepG,stepG.exec])
theorem st_regionDraw {id : Nat} {ops : Array Oper} (hm : fc.mode = .run) (ht : fc.todo = .code (.region id ops true) :: k) :
    ∃ t,step P (lone fc cs w) = .next (lone { fc with todo := .inRegion ops (Region.schedule (P.follows .mixedOrders) ops t) :: k } cs w.drew) :=
  ⟨w.tape w.drawn (.order fc.fn id),step_lone_go (by cases fc; simp only at hm ht; subst hm ht; simp [stepG,stepG.exec,choose,Sem.run,Question.forced,Question.cut])⟩
theorem st_regionEnd {ops : Array Oper} (hm : fc.mode = .run) (ht : fc.todo = .inRegion ops [] :: k) : step P (lone fc cs w) = .next (lone { fc with todo := k } cs w) :=
  step_lone_go (by cases fc; simp only at hm ht; subst hm ht; simp [stepG,stepG.exec])
theorem st_opSkip {ops : Array Oper} {i : Nat} {rest : List Nat} (hm : fc.mode = .run) (ht : fc.todo = .inRegion ops (i :: rest) :: k)
    (hw : ((ops[i]?).map (Region.wanted · (yielded ops fc.tmps))).getD false = false) : step P (lone fc cs w) = .next (lone (fc.finish undef) cs w) :=
  step_lone_go (by
    cases fc; simp only at hm ht hw; subst hm ht
    have hw' := hw
    simp [stepG,stepG.exec,hw'])
theorem st_op {ops : Array Oper} {i : Nat} {rest : List Nat} {o : Oper} (hm : fc.mode = .run) (ht : fc.todo = .inRegion ops (i :: rest) :: k) (ho : ops[i]? = some o)
    (hw : Region.wanted o (yielded ops fc.tmps) = true) (hd : ∀ c,o.op ≠ .defer c) :
    stepG P true { frame := fc,callers := cs,status := .running,dying := none } w = stepG.apply P true fc cs none (execOp fc.eval o) w := by
  cases fc with
  | mk fn tmps todo defers mode kind roundOf =>
    simp only at hm ht hw
    subst hm ht
    have h1 : (Frame.mk fn tmps (.inRegion ops (i :: rest) :: k) defers .run kind roundOf).oper? = some o := by simp [Frame.oper?,ho]
    simp only [stepG,stepG.exec,ho,Option.map_some,hw,Option.getD_some,if_true,stepG.oper,h1]
    split
    · rename_i hc
      exact absurd hc (hd _)
    · rfl
theorem st_value {ops : Array Oper} {i : Nat} {rest : List Nat} {o : Oper} {v : Value} {w' : World} (hm : fc.mode = .run) (ht : fc.todo = .inRegion ops (i :: rest) :: k) (ho : ops[i]? = some o)
    (hw : Region.wanted o (yielded ops fc.tmps) = true) (hd : ∀ c,o.op ≠ .defer c) (hr : (execOp fc.eval o).run P w = .ok (.value v) w') :
    step P (lone fc cs w) = .next (lone (fc.finish v) cs w') :=
  step_lone_go (by rw [st_op hm ht ho hw hd]; simp [stepG.apply,hr])
theorem st_skipped {ops : Array Oper} {i : Nat} {rest : List Nat} {o : Oper} {w' : World} (hm : fc.mode = .run) (ht : fc.todo = .inRegion ops (i :: rest) :: k) (ho : ops[i]? = some o)
    (hw : Region.wanted o (yielded ops fc.tmps) = true) (hd : ∀ c,o.op ≠ .defer c) (hr : (execOp fc.eval o).run P w = .ok .skip w') :
    step P (lone fc cs w) = .next (lone (fc.finish undef) cs w') :=
  step_lone_go (by rw [st_op hm ht ho hw hd]; simp [stepG.apply,hr])
theorem st_mark {r : Nat} {ds : List Deferred} (hm : fc.mode = .returning) (hd : fc.defers = { target := .collected r,args := #[] } :: ds) (hh : w.heap[r]? = some (.deferred (some []))) :
    step P (lone fc cs w) = .next (lone { fc with defers := ds } cs { w with heap := w.heap.setIfInBounds r (.deferred none) }) :=
  step_lone_go (by
    cases fc; simp only at hm hd; subst hm hd
    simp [stepG,unwind,Instr.takeDeferred,getObj,setObj,Sem.run,hh])
theorem st_return {c : Frame} {v : Value} {fn : Func} (hm : fc.mode = .returning) (hd : fc.defers = []) (hk : fc.kind = .normal) (hf : P.funcs[fc.fn]? = some fn) (hr : (Go.results fn fc.tmps).run P w = .ok v w) :
    step P (lone fc (c :: cs) w) = .next (lone (c.finish v) cs w) :=
  step_lone_go (by
    cases fc; simp only at hm hd hk hf hr; subst hm hd hk
    simp [stepG,unwind,doReturn,hf,hr])
end
end Go.Ev
