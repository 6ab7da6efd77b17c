/-
  SX: a workspace and patches, as they are handed in: what the walker is told.
-/
import Derived.Test.YtelpkdjibjddlaaEvNest1
import Derived.Test.YtelpkdjibjddlaaEvSxZ
namespace Go.Sx
open Go Go.Ev Go.Ev.R1 Go.RowKit Go.Proofs
set_option maxRecDepth 100000
def toPt (y : Hd) : Pt := ⟨y.nm,y.es⟩
theorem arg_cap {α : Type} {c : α → List Value} {k kk : Nat} {w : World} {a : Option Addr} {len cap : Nat} {l : List α} (h : Handed c k w a len cap l) (N : Nat) : (argSlice N a = none ∨ ∃ M p,argSlice N a = some ⟨M,p,none⟩) ∧ (l.length ≤ cap ∧ cap < END ∨ cap = END + kk ∨ l = [] ∧ cap = END + END) := by
  obtain ⟨h1,h2,h3,h0,h4⟩ := h
  refine ⟨?_,.inl ⟨by omega,h3⟩⟩
  cases a with
  | none => exact .inl rfl
  | some x => exact .inr ⟨N,0,rfl⟩
section
variable {w : World} {a0 : Option Addr} {l0 : List Fl} {a1 : Option Addr} {l1 : List Hd} {len0 cap0 len1 cap1 : Nat}
theorem in_den (hok : ∀ y ∈ l1,y.Ok w) (hlen : l1.length < 4611686018427387904) {X : Env U1} (hX : X.t = tree w a0 l0 a1 l1) (hn : X.n = nxt) (hf : ∀ N,¬ X.fb N) {j : Nat} {y : Hd} (hy : l1[j]? = some y) : Den S1 X (.sl 0 y.es) (inE (nameAt dep (2 + j)) y) := by
  have ho := hok y (List.mem_of_getElem? hy)
  have hj := (List.getElem?_eq_some_iff.1 hy).1
  have empty : ∀ (a : Option Addr) (cap : Nat),(a = none ∨ ∃ M p,a = some ⟨M,p,none⟩) → (cap < END ∨ cap = END + END) → y.es = [] → Den S1 X (.sl 0 y.es) (.slice a 0 cap) := fun a cap ha hc he => by
    rw [he]
    exact DenL.sl (c := 0) (d := []) (cs := fun _ => []) (ws := []) (N := 0) (o := 0) (e := 0) (hi := 0) ⟨ha,by rcases hc with hc | hc; exact .inl ⟨Nat.zero_le _,hc⟩; exact .inr (.inr ⟨rfl,hc⟩)⟩ (fun h => absurd rfl h) (fun j x h => by simp at h) (fun j x h => by simp at h) (Nat.zero_lt_succ _) .nil
  unfold inE
  cases ha : y.a with
  | none =>
    obtain ⟨e1,e2⟩ := ho.nil ha
    exact empty none 0 (.inl rfl) (.inl (by decide)) (List.eq_nil_of_length_eq_zero (by rw [ho.len,e1]))
  | some x =>
    simp only
    by_cases he : y.es = []
    · rw [if_pos (by rw [he]; rfl)]
      exact empty _ _ (.inr ⟨0,0,rfl⟩) (.inr rfl) he
    · rw [if_neg (by simpa using he)]
      have hh := ho.hand he
      obtain ⟨vs,e,hs⟩ := hh.sl (c := Ed.cells) (fun _ => rfl) (t := X.t) (n := X.n) (N := nameAt dep (2 + j)) (by rw [hX]; exact rows_in hy) (by rw [hn]; exact name_lt (by omega))
      have := ed_den hs (arg_cap hh _) hf
      rw [ha,ho.len] at this
      exact this
theorem nest_den (h0 : Handed Fl.cells 2 w a0 len0 cap0 l0) (h1 : Handed Hd.cells 2 w a1 len1 cap1 l1) (hok : ∀ y ∈ l1,y.Ok w) {X : Env U1} (hX : X.t = tree w a0 l0 a1 l1) (hn : X.n = nxt) (hf : ∀ N,¬ X.fb N) :
    Den S1 X (.sl 1 l0) (.slice (argSlice (nameAt dep 0) a0) l0.length cap0) ∧ Den S1 X (.sl 4 (l1.map toPt)) (.slice (argSlice (nameAt dep 1) a1) l1.length cap1) := by
  constructor
  · obtain ⟨vs,e,hs⟩ := h0.sl (c := Fl.cells) (fun _ => rfl) (t := X.t) (n := X.n) (N := nameAt dep 0) (by rw [hX,tree_at]; simp [rows]) (by rw [hn]; exact name_lt (by omega))
    exact fl_den hs (arg_cap h0 _) hf
  · have hcap := arg_cap (kk := S1.k 4) h1 (nameAt dep 1)
    obtain ⟨g1,g2,g3,g4,g5⟩ := h1
    have hlen : l1.length = (l1.map toPt).length := by simp
    have hrow : l1 ≠ [] → argSlice (nameAt dep 1) a1 = some ⟨nameAt dep 1,0,none⟩ ∧ ∃ e,X.t.get (nameAt dep 1) = some (.cells (l1.zipIdx.map cE).flatten e END) := fun hne => by
      rcases g5 with ⟨rfl,rfl⟩ | ⟨blk,off,rfl,hbk,cs,e,fz,hh,hsz,hget⟩
      · exact absurd rfl hne
      · refine ⟨rfl,e,?_⟩
        rw [hX,tree_at]
        simp only [rows,List.getElem?_cons_succ,List.getElem?_cons_zero,Option.join_some]
        unfold rowP
        simp only [hh]
        rw [if_neg (by simpa using hne)]
    have hmap : ∀ {j : Nat} {x : Pt},(l1.map toPt)[j]? = some x → ∃ y,l1[j]? = some y ∧ toPt y = x := fun {j x} hj => by
      rw [List.getElem?_map] at hj
      exact Option.map_eq_some_iff.1 hj
    by_cases hne : l1 = []
    · subst hne
      exact DenL.sl (c := 4) (d := []) (cs := fun _ => []) (ws := []) (N := 0) (o := 0) (e := 0) (hi := 0) ⟨hcap.1,by rcases hcap.2 with h | h | h; exact .inl h; exact .inr (.inl h); exact .inr (.inr ⟨rfl,h.2⟩)⟩ (fun h => absurd rfl h) (fun j x h => by simp at h) (fun j x h => by simp at h) (Nat.zero_lt_succ _) .nil
    · obtain ⟨r1,e,r2⟩ := hrow hne
      have hz : ∀ {j : Nat} {y : Hd},l1[j]? = some y → l1.zipIdx[j]? = some (y,j) := fun {j y} hy => by rw [List.getElem?_zipIdx,hy]; simp
      rw [hlen]
      refine DenL.sl (c := 4) (d := l1.map toPt) (N := nameAt dep 1) (o := 0) (ws := (l1.zipIdx.map cE).flatten) (e := e) (hi := END) (cs := fun j => match l1[j]? with | some y => cE (y,j) | none => []) ⟨hcap.1,?_⟩ (fun _ => ⟨r1,r2,by rw [hn]; exact name_lt (by omega),hf _⟩) (fun j x hj => ?_) (fun j x hj => ?_) (by rw [← hlen,g1]; exact Nat.lt_of_le_of_lt g4 g3) .nil
      · rcases hcap.2 with h | h | h
        · exact .inl ⟨by rw [← hlen]; exact h.1,h.2⟩
        · exact .inr (.inl h)
        · exact absurd h.1 hne
      · obtain ⟨y,hy,rfl⟩ := hmap hj
        simp only [hy]
        rw [Nat.zero_add]
        exact slice_flat (c := cE) (k := 2) (fun _ => rfl) l1.zipIdx j (y,j) (hz hy)
      · obtain ⟨y,hy,rfl⟩ := hmap hj
        simp only [hy]
        exact DenL.str (DenL.cons (in_den hok (by rw [g1]; exact g2) hX hn hf hy) .nil)
end
end Go.Sx

