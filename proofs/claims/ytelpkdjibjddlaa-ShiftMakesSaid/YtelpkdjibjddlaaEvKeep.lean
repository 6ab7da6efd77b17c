/-
  EV: the layer files: rules for texts that are ranged over, copies of lists, functions with what they have caught; what the functions compute, in plain Lean.
-/
import Derived.Test.YtelpkdjibjddlaaEvApplyLaw
import Derived.Laws.RangeAny
import Derived.Laws.RangeString
import Derived.Test.YtelpkdjibjddlaaEvShiftLaw
set_option linter.unusedSimpArgs false
set_option linter.unusedVariables false
namespace Go.Ev
open Go Go.RowKit
structure Ob (t : Tree) (n N : Nat) (o : Obj) : Prop where
  get : t.get N = some (.obj o)
  lt : N < n
theorem Ob.own {s s' : St} {N : Nat} {o : Obj} (r : Ob s.t s.next N o) (h : Own s s') : Ob s'.t s'.next N o := ⟨(h.old N r.lt).trans r.get,Nat.lt_of_lt_of_le r.lt h.next⟩
section
variable {T : Tab} {fr : Fr} {s s0 : St} {ops : Array Oper} {o : Oper} {os : List Oper} {Q : Fr → St → Prop}
end
structure Fl where
  nm : ByteArray
  tx : ByteArray
abbrev Fl.cells (f : Fl) : List Value := [.string f.nm,.string f.tx]
theorem Fl.one : ∀ y : Fl,∀ v ∈ y.cells,oneCell v = true := by intro y v hv; simp at hv; rcases hv with rfl | rfl <;> rfl
structure Fl.Ok (f : Fl) : Prop where
  nm : (B f.nm).length ≤ 140737488351232
  tx : (B f.tx).length ≤ 140737488351232
abbrev PlainC (c : Int) : Prop := (97 ≤ c ∧ c ≤ 122) ∨ (65 ≤ c ∧ c ≤ 90) ∨ (48 ≤ c ∧ c ≤ 57) ∨ c = 46 ∨ c = 45 ∨ c = 95
abbrev PlainB (b : UInt8) : Prop := PlainC ((b.toNat : Nat) : Int)
def badS (x : ByteArray) : Int := match (B x).findIdx? (fun b => decide (¬ PlainB b)) with
  | some i => (i : Int)
  | none => -1
abbrev Titled (x : ByteArray) : Prop := ¬ B x = B ByteArray.empty ∧ (((B x).length : Nat) : Int) ≤ 40 ∧ ¬ 0 ≤ badS x
def placeS (l : List Fl) (x : ByteArray) : Int := match l.findIdx? (fun f => decide (B f.nm = B x)) with
  | some i => (i : Int)
  | none => -1
def FR (l : List Fl) : Prop := ¬ l.length = 0 ∧ l.length ≤ 8 ∧ ∀ (k : Nat) (f : Fl),l[k]? = some f → Titled f.nm ∧ (((B f.tx).length : Nat) : Int) ≤ 4000 ∧ placeS l f.nm = k
noncomputable instance (l : List Fl) : Decidable (FR l) := Classical.propDecidable _
noncomputable instance (a b : List Fl) : Decidable (a = b) := Classical.propDecidable _
end Go.Ev

/-
  EV: the rules of a printed walk, sixth part: loops over functions, their rounds; results that lie in cells.
-/
namespace Go.Ev
open Go Go.RowKit
def EndsYield (T : Tab) (L : Nat) (args : List Value) (s : St) (Q : Value → St → Prop) : Prop := ∃ k v s',round (evCode T k) L args s = some (v,s') ∧ Q v s'
theorem EndsYield.mono {T : Tab} {L : Nat} {args : List Value} {s : St} {Q Q' : Value → St → Prop} (h : EndsYield T L args s Q) (hq : ∀ v s,Q v s → Q' v s) : EndsYield T L args s Q' := let ⟨k,v,s',h1,h2⟩ := h; ⟨k,v,s',h1,hq _ _ h2⟩
section
variable {T : Tab} {fr : Fr} {s s0 : St} {ops : Array Oper} {o : Oper} {os : List Oper} {Q : Fr → St → Prop}
end
def afterRound (r : Loop) (e : Ex) : Loop := { r with state := if (jumpOf e).isNone then .ready else .done,pending := jumpOf e }
def setL (s : St) (L : Nat) (r : Loop) : St := { s with t := s.t.set L (some (.obj (.loop r))),mods := L :: s.mods }
end Go.Ev

/-
  EV: the layer shift: the bytes that go, in order, in plain Lean.
-/
namespace Go.Ev
open Go Go.RowKit
def runPairs (r : Run) : List (Int × Int) := (upTo r.fr r.to).map fun x => (x,W (x + r.by'))
def keptOf (rs : List Run) : List (Int × Int) := (rs.map runPairs).flatten
def kpos (rs : List Run) (i : Nat) : Nat := (keptOf (rs.take i)).length
theorem runPairs_len (r : Run) : (runPairs r).length = (r.to - r.fr).toNat := by simp [runPairs,upTo_len]
theorem kpos_step {rs : List Run} {i : Nat} {r : Run} (h : rs[i]? = some r) : kpos rs (i + 1) = kpos rs i + (r.to - r.fr).toNat := by
  unfold kpos keptOf
  rw [List.take_add_one,h]
  simp [runPairs_len]
theorem kpos_all (rs : List Run) : kpos rs rs.length = (keptOf rs).length := by unfold kpos; rw [List.take_length]
theorem kept_at {rs : List Run} {i : Nat} {r : Run} (h : rs[i]? = some r) {p : Int} (h1 : r.fr ≤ p) (h2 : p < r.to) : (keptOf rs)[kpos rs i + (p - r.fr).toNat]? = some (p,W (p + r.by')) := by
  have hrs : keptOf rs = keptOf (rs.take i) ++ (runPairs r ++ keptOf (rs.drop (i + 1))) := by
    unfold keptOf
    conv => lhs; rw [← List.take_append_drop i rs]
    rw [List.map_append,List.flatten_append,List.drop_eq_getElem?_toList_append,h]
    simp
  rw [hrs,List.getElem?_append_right (by unfold kpos; omega)]
  rw [show kpos rs i + (p - r.fr).toNat - (keptOf (rs.take i)).length = (p - r.fr).toNat by unfold kpos; omega]
  rw [List.getElem?_append_left (by rw [runPairs_len]; omega)]
  unfold runPairs
  rw [List.getElem?_map,upTo_get,if_pos (by omega)]
  simp only [Option.map_some]
  rw [show r.fr + ((p - r.fr).toNat : Int) = p by omega]
theorem runs_bound {n : Int} : ∀ (l : List Ed) (a b : Int),Chain l a n → 0 ≤ a → ∀ r ∈ runsR l a b n,a ≤ r.fr ∧ r.fr ≤ r.to ∧ r.to ≤ n
  | [],a,b,hc,h0,r,hr => by
    have hc : a ≤ n := hc
    simp [runsR] at hr; subst hr; exact ⟨Int.le_refl _,hc,Int.le_refl _⟩
  | e :: l,a,b,hc,h0,r,hr => by
    obtain ⟨c1,c2,c3,c4⟩ := hc
    simp only [runsR,List.mem_cons] at hr
    rcases hr with rfl | hr
    · exact ⟨Int.le_refl _,c1,by show e.lo ≤ n; omega⟩
    · have := runs_bound l e.hi _ c4 (by omega) r hr
      exact ⟨by omega,this.2.1,this.2.2⟩
theorem runIn {l : List Ed} {n : Int} (hR : Right l n) {i : Nat} {r : Run} (h : (runsS l n)[i]? = some r) : 0 ≤ r.fr ∧ r.fr ≤ r.to ∧ r.to ≤ n := by
  rw [runsS_R] at h
  exact runs_bound l 0 0 hR.chain (Int.le_refl _) r (List.mem_of_getElem? h)
def keptS (l : List Ed) (n : Int) : List (Int × Int) := keptOf (runsS l n)
theorem Sl.keep {α : Type} {c : α → List Value} {k : Nat} {a : Option Addr} {l : List α} {N o e hi : Nat} {vs : List Value} {s s1 : St} (h : Sl c k s.t s.next a l N o vs e hi) (hn : s.next ≤ s1.next) (hg : l ≠ [] → s1.t.get N = s.t.get N) : Sl c k s1.t s1.next a l N o vs e hi :=
  ⟨h.addr,fun hl => ⟨(hg hl).trans (h.row hl).get,Nat.lt_of_lt_of_le (h.row hl).lt hn⟩,h.get,h.small⟩
end Go.Ev
namespace Go.Ev
open Go Go.RowKit
theorem kept_fst {l : List Ed} {n : Int} (hR : Right l n) : ∀ p ∈ keptS l n,0 ≤ p.1 ∧ p.1 < n := by
  intro p hp
  obtain ⟨ps,hps,hpp⟩ := List.mem_flatten.1 hp
  obtain ⟨r,hr,rfl⟩ := List.mem_map.1 hps
  obtain ⟨i,hi⟩ := List.getElem?_of_mem hr
  have hb := runIn hR hi
  unfold runPairs at hpp
  obtain ⟨x,hx,rfl⟩ := List.mem_map.1 hpp
  obtain ⟨k,hk⟩ := List.getElem?_of_mem hx
  rw [upTo_get] at hk
  split at hk
  · cases hk; exact ⟨by simp only; omega,by simp only; omega⟩
  · cases hk
theorem Ob.upd {s s1 : St} {N D : Nat} {o : Obj} (r : Ob s.t s.next D o) (hn : s1.next = s.next) (hu : ∀ M,M ≠ N → s1.t.get M = s.t.get M) (h : ∃ b,(∃ vs e hi,b = Blk.cells vs e hi) ∧ s.t.get N = some b) : Ob s1.t s1.next D o := by
  have : D ≠ N := by
    intro h0; subst h0
    obtain ⟨b,⟨vs,e,hi,rfl⟩,h2⟩ := h
    have := r.get.symm.trans h2; cases this
  exact ⟨(hu D this).trans r.get,hn ▸ r.lt⟩
theorem Own.setL {z s s3 : St} {L : Nat} (h : Own z s) (hL : z.next ≤ L) (hlt : L < s.next) (hn : s3.next = s.next) (hm : s3.mods = L :: s.mods) (hg : ∀ M,M ≠ L → s3.t.get M = s.t.get M) : Own z s3 := Own.store h hL hlt ⟨[L],hm,fun M hM => by simpa using hM⟩ hn hg
theorem Row.setL {s s3 : St} {L N e hi : Nat} {vs : List Value} (r : Row s.t s.next N vs e hi) (hn : s3.next = s.next) (hg : ∀ M,M ≠ L → s3.t.get M = s.t.get M) (hL : ∃ o,s.t.get L = some (.obj o)) : Row s3.t s3.next N vs e hi := by
  have : N ≠ L := by
    intro h; subst h
    obtain ⟨o,ho⟩ := hL
    have := r.get.symm.trans ho; cases this
  exact ⟨(hg N this).trans r.get,hn ▸ r.lt⟩
end Go.Ev
