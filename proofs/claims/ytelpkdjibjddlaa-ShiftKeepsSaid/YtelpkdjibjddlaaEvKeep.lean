/-
  EV: the layer shift: the bytes that go, in order, in plain Lean.
-/
import Derived.Test.YtelpkdjibjddlaaEvShiftLaw
import Derived.Test.YtelpkdjibjddlaaEvRange
set_option linter.unusedSimpArgs false
set_option linter.unusedVariables false
namespace Go.Ev
open Go Go.RowKit

def runPairs (r : Run) : List (Int × Int) := (upTo r.fr r.to).map fun x => (x, W (x + r.by'))
def keptOf (rs : List Run) : List (Int × Int) := (rs.map runPairs).flatten
def kpos (rs : List Run) (i : Nat) : Nat := (keptOf (rs.take i)).length
theorem runPairs_len (r : Run) : (runPairs r).length = (r.to - r.fr).toNat := by simp [runPairs, upTo_len]
theorem kpos_step {rs : List Run} {i : Nat} {r : Run} (h : rs[i]? = some r) : kpos rs (i + 1) = kpos rs i + (r.to - r.fr).toNat := by
  unfold kpos keptOf
  rw [List.take_add_one, h]
  simp [runPairs_len]
theorem kpos_all (rs : List Run) : kpos rs rs.length = (keptOf rs).length := by unfold kpos; rw [List.take_length]
theorem kept_at {rs : List Run} {i : Nat} {r : Run} (h : rs[i]? = some r) {p : Int} (h1 : r.fr ≤ p) (h2 : p < r.to) : (keptOf rs)[kpos rs i + (p - r.fr).toNat]? = some (p, W (p + r.by')) := by
  have hrs : keptOf rs = keptOf (rs.take i) ++ (runPairs r ++ keptOf (rs.drop (i + 1))) := by
    unfold keptOf
    conv => lhs; rw [← List.take_append_drop i rs]
    rw [List.map_append, List.flatten_append, List.drop_eq_getElem?_toList_append, h]
    simp
  rw [hrs, List.getElem?_append_right (by unfold kpos; omega)]
  rw [show kpos rs i + (p - r.fr).toNat - (keptOf (rs.take i)).length = (p - r.fr).toNat by unfold kpos; omega]
  rw [List.getElem?_append_left (by rw [runPairs_len]; omega)]
  unfold runPairs
  rw [List.getElem?_map, upTo_get, if_pos (by omega)]
  simp only [Option.map_some]
  rw [show r.fr + ((p - r.fr).toNat : Int) = p by omega]
theorem runs_bound {n : Int} : ∀ (l : List Ed) (a b : Int), Chain l a n → 0 ≤ a → ∀ r ∈ runsR l a b n, a ≤ r.fr ∧ r.fr ≤ r.to ∧ r.to ≤ n
  | [], a, b, hc, h0, r, hr => by
    have hc : a ≤ n := hc
    simp [runsR] at hr; subst hr; exact ⟨Int.le_refl _, hc, Int.le_refl _⟩
  | e :: l, a, b, hc, h0, r, hr => by
    obtain ⟨c1, c2, c3, c4⟩ := hc
    simp only [runsR, List.mem_cons] at hr
    rcases hr with rfl | hr
    · exact ⟨Int.le_refl _, c1, by show e.lo ≤ n; omega⟩
    · have := runs_bound l e.hi _ c4 (by omega) r hr
      exact ⟨by omega, this.2.1, this.2.2⟩
theorem runIn {l : List Ed} {n : Int} (hR : Right l n) {i : Nat} {r : Run} (h : (runsS l n)[i]? = some r) : 0 ≤ r.fr ∧ r.fr ≤ r.to ∧ r.to ≤ n := by
  rw [runsS_R] at h
  exact runs_bound l 0 0 hR.chain (Int.le_refl _) r (List.mem_of_getElem? h)

/-- The pairs that go: the list of all bytes says the same. -/
def keptS (l : List Ed) (n : Int) : List (Int × Int) := keptOf (runsS l n)
/-- In order: each is behind the one ahead, by both numbers. -/
def Asc : List (Int × Int) → Int → Int → Prop
  | [], _, _ => True
  | p :: r, x, y => x < p.1 ∧ y < p.2 ∧ Asc r p.1 p.2
theorem asc_mono {x y x' y' : Int} (hx : x' ≤ x) (hy : y' ≤ y) : ∀ {l : List (Int × Int)}, Asc l x y → Asc l x' y'
  | [], _ => trivial
  | _ :: _, h => ⟨by have := h.1; omega, by have := h.2.1; omega, h.2.2⟩
theorem asc_app : ∀ {l m : List (Int × Int)} {x y u v : Int}, Asc l x y → (∀ p, l.getLast? = some p → p.1 ≤ u ∧ p.2 ≤ v) → (l = [] → x ≤ u ∧ y ≤ v) → Asc m u v → Asc (l ++ m) x y
  | [], m, x, y, u, v, _, _, h, hm => asc_mono (h rfl).1 (h rfl).2 hm
  | [p], m, x, y, u, v, h, hl, _, hm => ⟨h.1, h.2.1, asc_mono (hl p rfl).1 (hl p rfl).2 hm⟩
  | p :: q :: r, m, x, y, u, v, h, hl, _, hm => ⟨h.1, h.2.1, asc_app (l := q :: r) h.2.2 (fun z hz => hl z (by rw [List.getLast?_cons_cons]; exact hz)) (fun h => by cases h) hm⟩
theorem asc_run (c : Int) : ∀ (k : Nat) (a : Int), Asc ((List.range k).map fun j : Nat => (a + (j : Int), a + (j : Int) + c)) (a - 1) (a - 1 + c)
  | 0, a => trivial
  | k + 1, a => by
    rw [List.range_succ_eq_map, List.map_cons, List.map_map]
    refine ⟨by simp <;> omega, by simp <;> omega, ?_⟩
    have := asc_run c k (a + 1)
    have e : ((fun j : Nat => (a + (j : Int), a + (j : Int) + c)) ∘ Nat.succ) = fun j : Nat => (a + 1 + (j : Int), a + 1 + (j : Int) + c) := by
      funext j; simp only [Function.comp, Nat.succ_eq_add_one]; rw [show a + ((j + 1 : Nat) : Int) = a + 1 + (j : Int) by omega]
    rw [e]
    exact asc_mono (by simp <;> omega) (by simp <;> omega) this
theorem run_asc {r : Run} (h1 : 0 ≤ r.fr) (h2 : r.to ≤ 1000) (h3 : -1000 ≤ r.by' ∧ r.by' ≤ 1000) : Asc (runPairs r) (r.fr - 1) (r.fr - 1 + r.by') := by
  have e : runPairs r = (List.range (r.to - r.fr).toNat).map fun j : Nat => (r.fr + (j : Int), r.fr + (j : Int) + r.by') := by
    unfold runPairs upTo
    rw [List.map_map]
    refine List.map_congr_left fun j hj => ?_
    have := List.mem_range.1 hj
    simp only [Function.comp]
    rw [W_id (by omega) (by omega)]
  rw [e]; exact asc_run _ _ _
theorem run_last {r : Run} (h1 : 0 ≤ r.fr) (h2 : r.to ≤ 1000) (h3 : -1000 ≤ r.by' ∧ r.by' ≤ 1000) : ∀ p, (runPairs r).getLast? = some p → p.1 ≤ r.to - 1 ∧ p.2 ≤ r.to - 1 + r.by' := by
  intro p hp
  have hm : p ∈ runPairs r := List.mem_of_getLast? hp
  obtain ⟨k, hk⟩ := List.getElem?_of_mem hm
  unfold runPairs at hk
  rw [List.getElem?_map, upTo_get] at hk
  split at hk
  · cases hk
    refine ⟨by simp only; omega, ?_⟩
    simp only
    rw [W_id (by omega) (by omega)]; omega
  · cases hk
/-- All that go, from one end to the other. -/
theorem kept_asc {n : Int} (hn : n ≤ 500) : ∀ (l : List Ed) (a b : Int) (S : Nat), Chain l a n → 0 ≤ a → 0 ≤ a + b → b ≤ S → S + sumT l ≤ 500 → Asc (keptOf (runsR l a b n)) (a - 1) (a - 1 + b)
  | [], a, b, S, hc, h0, h1, h2, h3 => by
    have hc : a ≤ n := hc
    have := run_asc (r := ⟨a, n, b⟩) h0 (by simp only; omega) ⟨by simp only; omega, by simp only; omega⟩
    simpa [keptOf, runsR] using this
  | e :: r, a, b, S, hc, h0, h1, h2, h3 => by
    obtain ⟨c1, c2, c3, c4⟩ := hc
    have hs : sumT (e :: r) = (B e.tx).length + sumT r := by simp [sumT]
    have hb' : W (b + W ((((B e.tx).length : Nat) : Int) - W (e.hi - e.lo))) = b + (((B e.tx).length : Int) - (e.hi - e.lo)) := by
      rw [W_id (x := e.hi - e.lo) (by omega) (by omega), W_id (x := (((B e.tx).length : Nat) : Int) - (e.hi - e.lo)) (by omega) (by omega), W_id (by omega) (by omega)]
    have ih := kept_asc hn r e.hi (b + (((B e.tx).length : Int) - (e.hi - e.lo))) (S + (B e.tx).length) c4 (by omega) (by omega) (by omega) (by omega)
    have h1' := run_asc (r := ⟨a, e.lo, b⟩) h0 (by simp only; omega) ⟨by simp only; omega, by simp only; omega⟩
    have hl := run_last (r := ⟨a, e.lo, b⟩) h0 (by simp only; omega) ⟨by simp only; omega, by simp only; omega⟩
    have : keptOf (runsR (e :: r) a b n) = runPairs ⟨a, e.lo, b⟩ ++ keptOf (runsR r e.hi (b + (((B e.tx).length : Int) - (e.hi - e.lo))) n) := by
      simp only [runsR, keptOf, List.map_cons, List.flatten_cons, hb']
    rw [this]
    refine asc_app h1' (fun p hp => ?_) (fun _ => ⟨by omega, by omega⟩) ih
    have := hl p hp
    simp only at this
    exact ⟨by omega, by omega⟩
theorem asc_get : ∀ {l : List (Int × Int)} {x y : Int}, Asc l x y → ∀ (k : Nat) (p q : Int × Int), l[k]? = some p → l[k + 1]? = some q → p.1 < q.1 ∧ p.2 < q.2
  | [], _, _, _, k, p, q, h, _ => by simp at h
  | [a], _, _, _, k, p, q, _, h => by simp at h
  | a :: b :: r, x, y, h, 0, p, q, hp, hq => by
    simp at hp hq; subst hp hq; exact ⟨h.2.2.1, h.2.2.2.1⟩
  | a :: b :: r, x, y, h, k + 1, p, q, hp, hq => asc_get (l := b :: r) h.2.2 k p q (by simpa using hp) (by simpa using hq)
theorem asc_head {l : List (Int × Int)} {x y : Int} (h : Asc l x y) (p : Int × Int) (hp : l[0]? = some p) : x < p.1 ∧ y < p.2 := by
  cases l with
  | nil => simp at hp
  | cons a r => simp at hp; subst hp; exact ⟨h.1, h.2.1⟩
theorem Sl.keep {α : Type} {c : α → List Value} {k : Nat} {a : Option Addr} {l : List α} {N o e hi : Nat} {vs : List Value} {s s1 : St} (h : Sl c k s.t s.next a l N o vs e hi) (hn : s.next ≤ s1.next) (hg : l ≠ [] → s1.t.get N = s.t.get N) : Sl c k s1.t s1.next a l N o vs e hi :=
  ⟨h.addr, fun hl => ⟨(hg hl).trans (h.row hl).get, Nat.lt_of_lt_of_le (h.row hl).lt hn⟩, h.get, h.small⟩
end Go.Ev
namespace Go.Ev
open Go Go.RowKit
theorem stop_ex (q : Int) : ∃ z : Nat, W (1 + W ((IntKind.u64.wrap q).tmod 40)) = (z : Int) ∧ 1 ≤ z ∧ z ≤ 40 := by
  have h0 : 0 ≤ IntKind.u64.wrap q := by
    unfold IntKind.wrap
    simp [IntKind.signed, IntKind.bits]
    omega
  have h1 : 0 ≤ (IntKind.u64.wrap q).tmod 40 := Int.tmod_nonneg _ h0
  have h2 : (IntKind.u64.wrap q).tmod 40 < 40 := Int.tmod_lt_of_pos _ (by omega)
  generalize (IntKind.u64.wrap q).tmod 40 = y at *
  exact ⟨(1 + y).toNat, by rw [W_id (x := y) (by omega) (by omega), W_id (by omega) (by omega)]; omega, by omega, by omega⟩
theorem go_ca {l : List Ed} {n q : Int} (hR : Right l n) (hn : n ≤ 1000) (hT : sumT l ≤ 1000) (h : (goS l n q).2 = 0) : caS l n (goS l n q).1 = (q, 0) := by
  rw [goS_eq hR hn hT] at h ⊢
  rw [caS_eq hR hn hT]
  unfold rgoS at h ⊢
  split at h
  · rename_i k hk
    rw [List.findIdx?_eq_some_iff_getElem] at hk
    obtain ⟨h1, h2, _⟩ := hk
    have h2 := of_decide_eq_true h2
    simp only
    exact (rca4 (m := k) rfl (List.getElem?_eq_getElem h1) (by omega)).trans (by rw [h2.1])
  · cases h
/-- How many of those that go lie ahead of this place. -/
def cntK (K : List (Int × Int)) (i : Int) : Nat := (K.filter fun p => decide (p.1 < i)).length
theorem cntK_all {K : List (Int × Int)} {i : Int} (h : ∀ p ∈ K, p.1 < i) : cntK K i = K.length := by
  unfold cntK
  rw [List.filter_eq_self.2 fun p hp => decide_eq_true (h p hp)]
theorem cntK_none {K : List (Int × Int)} {i : Int} (h : ∀ p ∈ K, i ≤ p.1) : cntK K i = 0 := by
  unfold cntK
  rw [List.filter_eq_nil_iff.2 fun p hp => by have := h p hp; simp; omega]; rfl
theorem asc_all : ∀ {K : List (Int × Int)} {x y : Int}, Asc K x y → ∀ p ∈ K, x < p.1
  | [], _, _, _, p, h => by cases h
  | a :: r, x, y, h, p, hp => by
    rcases List.mem_cons.1 hp with rfl | hp
    · exact h.1
    · have := asc_all h.2.2 p hp; have := h.1; omega
theorem cntK_step : ∀ {K : List (Int × Int)} {x y : Int}, Asc K x y → ∀ i : Int, cntK K (i + 1) = cntK K i + if ∃ p ∈ K, p.1 = i then 1 else 0
  | [], _, _, _, i => by simp [cntK]
  | a :: r, x, y, h, i => by
    have ih := cntK_step h.2.2 i
    have hall := asc_all h.2.2
    unfold cntK at ih ⊢
    simp only [List.filter_cons]
    by_cases h1 : a.1 < i
    · have e : (∃ p ∈ a :: r, p.1 = i) ↔ ∃ p ∈ r, p.1 = i := by
        constructor
        · rintro ⟨p, hp, he⟩
          rcases List.mem_cons.1 hp with rfl | hp
          · omega
          · exact ⟨p, hp, he⟩
        · rintro ⟨p, hp, he⟩; exact ⟨p, List.mem_cons_of_mem _ hp, he⟩
      rw [if_pos (by simp; omega), if_pos (by simpa using h1)]
      simp only [List.length_cons, ih, e]
      omega
    · have hr0 : ∀ p ∈ r, i ≤ p.1 := fun p hp => by have := hall p hp; omega
      have hr1 : ∀ p ∈ r, i + 1 ≤ p.1 := fun p hp => by have := hall p hp; omega
      have e0 := cntK_none hr0
      have e1 := cntK_none hr1
      unfold cntK at e0 e1
      by_cases h2 : a.1 = i
      · rw [if_pos (by simp; omega), if_neg (by simpa using h1), if_pos ⟨a, List.mem_cons_self, h2⟩]
        simp only [List.length_cons, e0, e1]
      · have hne : ¬ ∃ p ∈ a :: r, p.1 = i := by
          rintro ⟨p, hp, he⟩
          rcases List.mem_cons.1 hp with rfl | hp
          · exact h2 he
          · have := hr1 p hp; omega
        rw [if_neg (by simp; omega), if_neg (by simpa using h1), if_neg hne, e0, e1]
theorem go_kept {l : List Ed} {n q : Int} : (goS l n q).2 = 0 ↔ ∃ p ∈ keptS l n, p.1 = q := by
  unfold goS keptS
  constructor
  · intro h
    split at h
    · rename_i r hr
      have hm := List.mem_of_find?_eq_some hr
      have hp : decide (InR q r) = true := List.find?_some (p := fun r => decide (InR q r)) hr
      have hp := of_decide_eq_true hp
      obtain ⟨i, hi⟩ := List.getElem?_of_mem hm
      exact ⟨_, List.mem_of_getElem? (kept_at hi hp.1 hp.2), rfl⟩
    · cases h
  · rintro ⟨p, hp, rfl⟩
    obtain ⟨ps, hps, hpp⟩ := List.mem_flatten.1 hp
    obtain ⟨r, hr, rfl⟩ := List.mem_map.1 hps
    unfold runPairs at hpp
    obtain ⟨x, hx, rfl⟩ := List.mem_map.1 hpp
    obtain ⟨k, hk⟩ := List.getElem?_of_mem hx
    rw [upTo_get] at hk
    split at hk
    · cases hk
      simp only
      have hin : InR (r.fr + (k : Int)) r := ⟨by omega, by omega⟩
      cases hf : (runsS l n).find? (fun r' => decide (InR (r.fr + (k : Int)) r')) with
      | some r' => rfl
      | none =>
        rw [List.find?_eq_none] at hf
        exact absurd (decide_eq_true hin) (hf r hr)
    · cases hk
theorem kept_fst {l : List Ed} {n : Int} (hR : Right l n) : ∀ p ∈ keptS l n, 0 ≤ p.1 ∧ p.1 < n := by
  intro p hp
  obtain ⟨ps, hps, hpp⟩ := List.mem_flatten.1 hp
  obtain ⟨r, hr, rfl⟩ := List.mem_map.1 hps
  obtain ⟨i, hi⟩ := List.getElem?_of_mem hr
  have hb := runIn hR hi
  unfold runPairs at hpp
  obtain ⟨x, hx, rfl⟩ := List.mem_map.1 hpp
  obtain ⟨k, hk⟩ := List.getElem?_of_mem hx
  rw [upTo_get] at hk
  split at hk
  · cases hk; exact ⟨by simp only; omega, by simp only; omega⟩
  · cases hk
theorem keptS_asc {l : List Ed} {n : Int} (hR : Right l n) (hn : n ≤ 500) (hT : sumT l ≤ 500) : Asc (keptS l n) (-1) (-1) := by
  have := kept_asc hn l 0 0 0 hR.chain (by omega) (by omega) (by omega) (by omega)
  rw [← runsS_R] at this
  exact this
theorem cnt_step {l : List Ed} {n : Int} (hR : Right l n) (hn : n ≤ 500) (hT : sumT l ≤ 500) (i : Nat) : cntK (keptS l n) (((i + 1 : Nat) : Int)) = cntK (keptS l n) (i : Int) + if (goS l n (i : Int)).2 = 0 then 1 else 0 := by
  have := cntK_step (keptS_asc hR hn hT) (i : Int)
  rw [show ((i + 1 : Nat) : Int) = (i : Int) + 1 by omega, this]
  by_cases h : (goS l n (i : Int)).2 = 0
  · rw [if_pos h, if_pos (go_kept.1 h)]
  · rw [if_neg h, if_neg (fun hk => h (go_kept.2 hk))]
theorem cnt_end {l : List Ed} {n : Int} {i : Nat} (hR : Right l n) (hi : n ≤ i) : cntK (keptS l n) (i : Int) = (keptS l n).length := cntK_all fun p hp => by have := kept_fst hR p hp; omega
theorem cnt_zero {l : List Ed} {n : Int} (hR : Right l n) : cntK (keptS l n) ((0 : Nat) : Int) = 0 := cntK_none fun p hp => by have := kept_fst hR p hp; omega
theorem remT {T : Tab} {t : TypeId} {c : Bool} {k : IntKind} {a b : Int} (h : b ≠ 0) : binop T .rem t c (.int k a) (.int k b) = some (.int k (a.tmod b)) := by simp [binop, intOp, h]
theorem Ob.upd {s s1 : St} {N D : Nat} {o : Obj} (r : Ob s.t s.next D o) (hn : s1.next = s.next) (hu : ∀ M, M ≠ N → s1.t.get M = s.t.get M) (h : ∃ b, (∃ vs e hi, b = Blk.cells vs e hi) ∧ s.t.get N = some b) : Ob s1.t s1.next D o := by
  have : D ≠ N := by
    intro h0; subst h0
    obtain ⟨b, ⟨vs, e, hi, rfl⟩, h2⟩ := h
    have := r.get.symm.trans h2; cases this
  exact ⟨(hu D this).trans r.get, hn ▸ r.lt⟩
theorem setL_ex (s : St) (L : Nat) (r : Loop) : ∃ s3, setL s L r = s3 ∧ s3.next = s.next ∧ s3.mods = L :: s.mods ∧ s3.t.get L = some (.obj (.loop r)) ∧ ∀ M, M ≠ L → s3.t.get M = s.t.get M := ⟨_, rfl, rfl, rfl, Tree.get_set_same _ _ _, fun _ h => Tree.get_set_ne _ _ h⟩
theorem Sl.single {α : Type} {c : α → List Value} {k : Nat} {t : Tree} {n N e hi : Nat} {x : α} (r : Row t n N (c x) e hi) (hk : (c x).length = k) : Sl c k t n (some ⟨N, 0, none⟩) [x] N 0 (c x) e hi := by
  refine ⟨fun _ => rfl, fun _ => r, fun i y hy => ?_, by simp⟩
  have hi : i = 0 := by
    have := (List.getElem?_eq_some_iff.1 hy).1
    simp at this; omega
  subst hi
  simp at hy; subst hy
  unfold Ev.slice
  simp only [Nat.zero_mul, Nat.add_zero, List.drop_zero]
  rw [List.take_of_length_le (by omega), if_pos hk]
theorem setL_facts {s s3 : St} {L : Nat} {r : Loop} (h : Ev.setL s L r = s3) : s3.next = s.next ∧ s3.mods = L :: s.mods ∧ s3.t.get L = some (.obj (.loop r)) ∧ ∀ M, M ≠ L → s3.t.get M = s.t.get M := by subst h; exact ⟨rfl, rfl, Tree.get_set_same _ _ _, fun _ h => Tree.get_set_ne _ _ h⟩
theorem Own.setL {z s s3 : St} {L : Nat} (h : Own z s) (hL : z.next ≤ L) (hlt : L < s.next) (hn : s3.next = s.next) (hm : s3.mods = L :: s.mods) (hg : ∀ M, M ≠ L → s3.t.get M = s.t.get M) : Own z s3 := Own.store h hL hlt ⟨[L], hm, fun M hM => by simpa using hM⟩ hn hg
theorem Row.setL {s s3 : St} {L N e hi : Nat} {vs : List Value} (r : Row s.t s.next N vs e hi) (hn : s3.next = s.next) (hg : ∀ M, M ≠ L → s3.t.get M = s.t.get M) (hL : ∃ o, s.t.get L = some (.obj o)) : Row s3.t s3.next N vs e hi := by
  have : N ≠ L := by
    intro h; subst h
    obtain ⟨o, ho⟩ := hL
    have := r.get.symm.trans ho; cases this
  exact ⟨(hg N this).trans r.get, hn ▸ r.lt⟩
end Go.Ev
