/-
  EV: the rules of a printed walk, fifth part: drawn regions that lay blocks and write.
-/
import Derived.Test.YtelpkdjibjddlaaEvText
namespace Go.Ev
open Go Go.RowKit
section
variable {T : Tab} {fr : Fr} {s : St} {ops : Array Oper} {bef : List Nat} {i : Nat} {o : Oper} {os : List Oper} {ds : List (Nat × Did)} {Q : Fr → St → Prop}
end
def EndsE (T : Tab) (ops : Array Oper) (bef : List Nat) (i : Nat) (os : List Oper) (L : List (Nat × Nat × Nat)) (fr : Fr) (s : St) (Q : Fr → St → Prop) : Prop :=
  ∀ ds,Calm ds → (∀ bits p,p ∈ hiddenOf bits ds → p ∈ hidL bits L) → (∀ p ∈ ds,p.1 < i) → EndsDraw T ops bef i os ds fr s Q
def EndsF (T : Tab) (ops : Array Oper) (bef : List Nat) (i : Nat) (os : List Oper) (fr : Fr) (s : St) (Q : Fr → St → Prop) : Prop := ∀ ds,EndsDraw T ops bef i os ds fr s Q
section
variable {T : Tab} {cx : Ctx} {fr : Fr} {s s0 : St} {ops : Array Oper} {bef : List Nat} {i : Nat} {o : Oper} {os : List Oper} {L : List (Nat × Nat × Nat)} {Q : Fr → St → Prop}
theorem ahead {ds : List (Nat × Did)} {d : Did} (h : ∀ p ∈ ds,p.1 < i) : ∀ p ∈ (i,d) :: ds,p.1 < i + 1 := fun p hp => by
  rcases List.mem_cons.1 hp with rfl | hp
  · exact Nat.lt_succ_self _
  · exact Nat.lt_succ_of_lt (h p hp)
theorem E.nil (h : Q fr s) : EndsE T ops bef i [] L fr s Q := fun _ _ _ _ => EndsDraw.nil h
theorem E.skip {fr1 : Fr} (hw : Region.wanted o (yieldedL ops fr.tmps) = false) (hf : fr.put o.dst undef = fr1) (h : EndsE T ops bef (i + 1) os L fr1 s Q) : EndsE T ops bef i (o :: os) L fr s Q := fun ds h1 h2 h3 => EndsDraw.skip1 hw hf (h ds h1 h2 fun p hp => Nat.lt_succ_of_lt (h3 p hp))
theorem OL.same {α : Type} {c : α → List Value} {k : Nat} {el : TypeId} {lo : Nat} {v : Value} {l : List α} {t t' : Tree} {n n' : Nat} (h : OL c k el lo t n v l) (hn : n ≤ n') (hg : ∀ M,M < n → t'.get M = t.get M) : OL c k el lo t' n' v l := by
  obtain ⟨h1,h2⟩ := h
  rcases h2 with h | ⟨N,h2,h3,h4⟩
  · exact ⟨h1,.inl h⟩
  · exact ⟨h1,.inr ⟨N,h2,⟨(hg N h3.lt).trans h3.get,Nat.lt_of_lt_of_le h3.lt hn⟩,h4⟩⟩
theorem Own.same {z s s2 : St} (h : Own z s) (hn : s2.next = s.next) (hm : s2.mods = s.mods) (hg : ∀ M,M < s.next → s2.t.get M = s.t.get M) : Own z s2 :=
  ⟨hn ▸ h.next,by obtain ⟨q,h1,h2⟩ := h.mods; exact ⟨q,hm.trans h1,fun N hN => hn ▸ h2 N hN⟩,fun N hN => (hg N (Nat.lt_of_lt_of_le hN h.next)).trans (h.old N hN)⟩
theorem OL.struck {α : Type} {c : α → List Value} {k : Nat} {el : TypeId} {lo : Nat} {v : Value} {l : List α} {t : Tree} {n : Nat} (h : OL c k el lo t n v l) {M : Nat} (hM : Struck v M) : M < n ∧ lo ≤ M ∧ (t.get M).isSome = true := by
  obtain ⟨len,cap,e,hcap⟩ := hM
  obtain ⟨_,h2⟩ := h
  rcases h2 with ⟨_,a,h,_⟩ | ⟨N,h,hr,hN⟩
  · rw [e] at h; cases h; exact absurd hcap (by decide)
  · rw [e] at h; cases h; exact ⟨hr.lt,hN,by rw [hr.get]; rfl⟩
theorem F.nil (h : Q fr s) : EndsF T ops bef i [] fr s Q := fun _ => EndsDraw.nil h
end
end Go.Ev

