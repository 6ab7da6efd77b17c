/-
  EV: slices in slices, as they are handed in.
-/
import Derived.Test.YtelpkdjibjddlaaEvRead2
import Derived.Test.YtelpkdjibjddlaaEvPlug
namespace Go.Ev
open Go Go.RowKit Go.ChangeShapes Go.WideShapes Go.Deep
section
variable {H : Type} {enc : TypeId × Value → H} {P : Program} {w : World} {α : Type} {c : α → List Value} {k : Nat}
theorem handedS {t e : TypeId} {base fuel : Nat} {a : Option Addr} {len cap : Nat} {d : DataW H} {ps : List MemPlace} (Okα : α → Prop) (ht : P.underlying t = some (.slice e)) (hk : P.cellsOf e = k) (hk0 : 0 < k) (hc : ∀ y,(c y).length = k) (hb : 0 < P.bytesOf e)
    (elt : ∀ cs n x,DataW.trod enc P w base (fun _ => true) true n e cs = some x → (∀ m ∈ x.1.weights P e,m ≤ reachBytes) → ∃ y,cs = c y ∧ Okα y)
    (hsl0 : ∀ x,a = some x → x.spot = none ∧ ∃ row cells,w.shape? x.block = some (row,cells)) (hf : DataW.trod enc P w base (fun _ => true) true fuel t [.slice a len cap] = some (d,ps)) (hz : ∀ m ∈ d.weights P t,m ≤ reachBytes) :
    ∃ l : List α,(∀ y ∈ l,Okα y) ∧ Handed c k w a len cap l := by
  rcases open_slice ht hf with ⟨h0,hd⟩ | ⟨x,len',cap',m,n,D,Pl,h0,_,hl,hm,hmm,hd,hx⟩
  · simp at h0
    obtain ⟨rfl,rfl,rfl⟩ := h0
    exact ⟨[],fun _ h => (by cases h),rfl,by decide,by decide,Nat.le_refl _,.inl ⟨rfl,rfl⟩⟩
  · simp at h0
    obtain ⟨rfl,rfl,rfl⟩ := h0
    simp only [if_true] at hmm
    subst hmm
    obtain ⟨rfl,rfl⟩ := Prod.mk.inj hd
    have hcap : m * P.bytesOf e ≤ reachBytes := by
      have := hz ((len + (m - len)) * P.bytesOf e) (by simp [DataW.weights,ht])
      rwa [show len + (m - len) = m by omega] at this
    have hcapE : m ≤ reachBytes := Nat.le_trans (Nat.le_mul_of_pos_right _ hb) hcap
    have hR : reachBytes < 4611686018427387904 := by decide
    have hE : reachBytes < END := by decide
    have each : ∀ i,i < len → ∃ q : α × List Value,q.2 = c q.1 ∧ Okα q.1 ∧ w.cells? base (x.add (i * P.cellsOf e)) (P.cellsOf e) = some q.2 := fun i hi => by
      obtain ⟨cs',h1,h2⟩ := hx i (by omega)
      obtain ⟨y,hy,hok⟩ := elt _ _ _ h2 fun m' hm' => hz m' (by
        unfold DataW.weights
        simp only [ht]
        refine List.mem_cons_of_mem _ (List.mem_append_left _ (mem_weightsAll (List.mem_map.2 ⟨i,List.mem_range.2 hi,rfl⟩) hm')))
      exact ⟨(y,cs'),hy,hok,h1⟩
    have hsl := hsl0 x rfl
    obtain ⟨hspot,row,cells,hshape⟩ := hsl
    obtain ⟨blk,off,sp⟩ := x
    simp only at hspot hshape
    subst hspot
    have hblk : ∃ cs e' fz,w.heap[blk]? = some (.cells cs e' fz) := by
      unfold World.shape? at hshape
      split at hshape
      · rename_i cs e' fz hh; exact ⟨cs,e',fz,hh⟩
      · cases hshape
    obtain ⟨cs,e',fz,hh⟩ := hblk
    have hlt : blk < w.heap.size := by
      rcases Nat.lt_or_ge blk w.heap.size with h | h
      · exact h
      · rw [Array.getElem?_eq_none h] at hh; cases hh
    have hcellw : ∀ o,w.cell? ⟨blk,o,none⟩ = cs[o]? := fun o => by unfold World.cell?; simp [hh]
    have hadd : ∀ o,(Addr.mk blk off none).add o = ⟨blk,off + o,none⟩ := fun o => by
      unfold Addr.add; split
      · rename_i h; subst h; rfl
      · rfl
    have pick : ∃ l : List α,l.length = len ∧ ∀ i y,l[i]? = some y → Okα y ∧ w.cells? base ((Addr.mk blk off none).add (i * P.cellsOf e)) (P.cellsOf e) = some (c y) := by
      obtain ⟨l,g1,g2⟩ := list_of (p := fun i y => Okα y ∧ w.cells? base ((Addr.mk blk off none).add (i * P.cellsOf e)) (P.cellsOf e) = some (c y)) fun i hi => (by
        obtain ⟨⟨y,cs'⟩,h1,h2,h3⟩ := each i hi
        simp only at h1 h2 h3
        subst h1
        exact ⟨y,h2,h3⟩)
      exact ⟨l,g1,g2⟩
    obtain ⟨l,hl1,hl2⟩ := pick
    refine ⟨l,fun y hy => ?_,hl1,by omega,by omega,hl,.inr ⟨blk,off,rfl,hlt,cs,e',fz,hh,fun hne => ?_,fun i y hy j v hv => ?_⟩⟩
    · obtain ⟨i,hi⟩ := List.getElem?_of_mem hy
      exact (hl2 i y hi).1
    · have hpos : 0 < l.length := List.length_pos_iff.2 hne
      obtain ⟨y,hy⟩ := ex_at (l := l) (i := l.length - 1) (by omega)
      have := (hl2 _ y hy).2
      obtain ⟨_,hlen,hcl⟩ := World.cells?_some this
      have h1 := hcl (k - 1) (by rw [hk]; omega)
      have h2 : k - 1 < (c y).length := by rw [hc]; omega
      rw [List.getElem?_eq_getElem h2,hadd,hk] at h1
      simp only [Addr.add] at h1
      have h3 : (w.cell? ⟨blk,off + (l.length - 1) * k + (k - 1),none⟩).isSome = true := by
        split at h1
        · rename_i h0; rw [h0,Nat.add_zero,h1]; rfl
        · rw [h1]; rfl
      rw [hcellw] at h3
      obtain ⟨v,hv⟩ := Option.isSome_iff_exists.1 h3
      have h4 : off + (l.length - 1) * k + (k - 1) < cs.size := by
        rcases Nat.lt_or_ge (off + (l.length - 1) * k + (k - 1)) cs.size with h | h
        · exact h
        · rw [Array.getElem?_eq_none h] at hv; cases hv
      have h5 : len * k = (l.length - 1) * k + k := by
        rw [← Nat.succ_mul]; congr 1; omega
      omega
    · have := (hl2 i y hy).2
      obtain ⟨_,hlen,hcl⟩ := World.cells?_some this
      have hj : j < k := by
        rcases Nat.lt_or_ge j (c y).length with h | h
        · rwa [hc] at h
        · rw [List.getElem?_eq_none h] at hv; cases hv
      have h1 := hcl j (by rw [hk]; exact hj)
      rw [hv,hadd,hk] at h1
      rw [← hcellw,← Nat.add_assoc]
      unfold Addr.add at h1
      split at h1
      · rename_i h0; rw [h0,Nat.add_zero]; exact h1
      · exact h1
theorem handedIn {t e : TypeId} {base fuel : Nat} {a : Option Addr} {len cap : Nat} {d : DataW H} {ps : List MemPlace} (Okα : α → Prop) (ht : P.underlying t = some (.slice e)) (hk : P.cellsOf e = k) (hk0 : 0 < k) (hc : ∀ y,(c y).length = k) (hb : 0 < P.bytesOf e)
    (elt : ∀ cs n x,DataW.trod enc P w base (fun _ => true) true n e cs = some x → (∀ m ∈ x.1.weights P e,m ≤ reachBytes) → ∃ y,cs = c y ∧ Okα y)
    (hf : DataW.trod enc P w base (fun _ => true) true fuel t [.slice a len cap] = some (d,ps)) (hz : ∀ m ∈ d.weights P t,m ≤ reachBytes) :
    ∃ l : List α,(∀ y ∈ l,Okα y) ∧ l.length = len ∧ (a = none → len = 0 ∧ cap = 0) ∧ (l ≠ [] → Handed c k w a len cap l) := by
  by_cases h0 : len = 0
  · refine ⟨[],fun _ h => (by cases h),h0.symm,fun ha => ?_,fun h => absurd rfl h⟩
    subst ha
    rcases open_slice ht hf with ⟨h1,hd⟩ | ⟨x,len',cap',m,n,D,Pl,h1,_⟩
    · simp at h1; exact h1
    · simp at h1
  · have hsl : ∀ x,a = some x → x.spot = none ∧ ∃ row cells,w.shape? x.block = some (row,cells) := by
      intro x hx
      subst hx
      rcases open_slice ht hf with ⟨h1,hd⟩ | ⟨x',len',cap',m,n,D,Pl,h1,_,hl,hm,hmm,hd,hx⟩
      · simp at h1
      · simp at h1
        obtain ⟨rfl,rfl,rfl⟩ := h1
        simp only [if_true] at hmm
        obtain ⟨cs',g1,_⟩ := hx 0 (by omega)
        obtain ⟨_,hlen,hcl⟩ := World.cells?_some g1
        have g2 := hcl 0 (by omega)
        have hs : (w.cell? x).isSome = true := by
          have e0 : ∀ y : Addr,y.add 0 = y := fun y => rfl
          rw [Nat.zero_mul,e0,e0] at g2
          rw [g2,List.getElem?_eq_getElem (by rw [hlen]; omega)]
          rfl
        unfold World.cell? at hs
        cases hh : w.heap[x.block]? with
        | none => rw [hh] at hs; cases hs
        | some o =>
          rw [hh] at hs
          cases o with
          | cells cs e' fz =>
            refine ⟨?_,e',cs.size,by unfold World.shape?; rw [hh]⟩
            cases hp : x.spot with
            | none => rfl
            | some z => rw [hp] at hs; simp at hs
          | _ => cases hs
    obtain ⟨l,g1,g2⟩ := handedS Okα ht hk hk0 hc hb elt hsl hf hz
    refine ⟨l,g1,g2.1,fun ha => ?_,fun _ => g2⟩
    subst ha
    rcases open_slice ht hf with ⟨h1,hd⟩ | ⟨x,len',cap',m,n,D,Pl,h1,_⟩
    · simp at h1; exact h1
    · simp at h1
end
end Go.Ev

