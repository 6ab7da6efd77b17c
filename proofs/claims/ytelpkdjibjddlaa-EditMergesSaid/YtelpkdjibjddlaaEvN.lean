/-
  EV, PART J: copy, clear; conversions; a string's walk; a Builder's string.
-/
import Derived.Test.YtelpkdjibjddlaaEvI
namespace Go.Ev
open Go Go.RowKit

theorem firstCells_zero {n size : Nat} (hn : n = 0) {x : Value} {s s' : St} {l : List Value} (h : firstCells n size x s = some (l, s')) : l = [] := by
  subst hn
  unfold firstCells at h
  split at h
  · rw [if_pos rfl] at h; exact (ret_some h).1
  · exact (ret_some h).1
  · have := (ret_some h).1; simpa [byteVals] using this
  · cases h

section
variable {T : Tab} {P : Program} (hT : T.Ok P)
include hT

theorem sim_copy {φ : Phi} {B : Base} {s s' : St} {w : World} (hR : Rel φ B s.t.get w) {ts : Array TypeId} {ty : TypeId} {args args' : List Value} (ha : LRel φ args args') {v : Value}
    (h : copy T ts.toList args s = some (v, s')) : Came φ B s w v s' ((Builtin.copy_ ts ty ⟨args'⟩).run P w) := by
  generalize hts : ts.toList = tl at h
  rcases tl with _ | ⟨t, tr⟩
  · cases h
  rcases args with _ | ⟨d, _ | ⟨x, _ | ⟨y, r⟩⟩⟩
  · cases h
  · cases d <;> cases h
  · obtain ⟨d', r1, rfl, hdv, ha1⟩ := ha.cons_inv
    obtain ⟨x', r2, rfl, hx, ha2⟩ := ha1.cons_inv
    obtain rfl := ha2.nil_inv
    have e0 : ts[0]? = some t := by rw [← Array.getElem?_toList, hts]; rfl
    cases d <;> simp only [copy] at h <;> try (cases h; done)
    rename_i base dLen dCap
    rcases hd : T.und t with _ | k
    · simp [hd, fail] at h
    rcases hm : lenOf x with _ | m
    · cases k <;> simp [hd, hm, fail] at h
    cases k <;> simp only [hd, hm] at h <;> try (cases h; done)
    rename_i elem
    rcases hsz : T.size elem with _ | size
    · simp [hsz, fail] at h
    simp only [hsz] at h
    obtain ⟨cells, s1, h1, h2⟩ := bnd_some h
    obtain ⟨rfl, cells', hc1, hc2⟩ := sim_firstCells hR hx h1 P
    have hdst : ∃ base' c', d' = .slice base' dLen c' ∧ (base = none ↔ base' = none) := by
      cases hdv with
      | sliceNil => exact ⟨none, _, rfl, by simp⟩
      | sliceEx => exact ⟨_, _, rfl, by simp⟩
      | sliceEnd => exact ⟨_, _, rfl, by simp⟩
      | sliceGone => exact ⟨_, _, rfl, by simp⟩
    obtain ⟨base', c', rfl, hbn⟩ := hdst
    cases base with
    | none =>
      simp only at h2
      obtain ⟨rfl, rfl⟩ := ret_some h2
      obtain rfl := hbn.1 rfl
      refine .same hR ?_ (.int _ _)
      simp only [Builtin.copy_, e0, List.getElem?_toArray, List.getElem?_cons_zero, List.getElem?_cons_succ, Sem.run_bind, run_und hT hd, Result.andThen_ok, lenOf_rel hm hx, run_size hT hsz, hc2, Sem.run_pure, goInt]
    | some a =>
      obtain ⟨N, o, sp⟩ := a
      cases sp <;> simp only at h2 <;> try (cases h2; done)
      obtain ⟨_, s2, h3, h4⟩ := bnd_some h2
      obtain ⟨rfl, rfl⟩ := ret_some h4
      obtain ⟨hnx, hst⟩ := sim_storeCells (P := P) hT hR hc1 h3
      rcases hst with ⟨he, rfl⟩ | ⟨hne, L', w2, hL', hrun, hR', hK⟩
      · have he' : cells' = [] := by have := hc1.1; rw [he] at this; exact List.eq_nil_of_length_eq_zero this.symm
        subst he'
        refine .same hR ?_ (.int _ _)
        cases base' <;> simp only [Builtin.copy_, e0, List.getElem?_toArray, List.getElem?_cons_zero, List.getElem?_cons_succ, Sem.run_bind, run_und hT hd, Result.andThen_ok, lenOf_rel hm hx, run_size hT hsz, hc2, Sem.run_pure, goInt, Go.storeCells]
      · have hb : base' = some ⟨L'.blk, L'.off + o, none⟩ ∨ dLen = 0 := by
          cases hdv with
          | sliceEx _ _ hL _ => rw [hL] at hL'; cases hL'; exact .inl rfl
          | sliceEnd _ _ _ hL _ _ _ => rw [hL] at hL'; cases hL'; exact .inl rfl
          | sliceGone => exact .inr rfl
        rcases hb with rfl | h0
        · refine ⟨φ, w2, _, ?_, by omega, .refl _ _ _, hR', .int _ _, hK⟩
          simp only [Builtin.copy_, e0, List.getElem?_toArray, List.getElem?_cons_zero, List.getElem?_cons_succ, Sem.run_bind, run_und hT hd, Result.andThen_ok, lenOf_rel hm hx, run_size hT hsz, hc2, Sem.run_pure, goInt, hrun]
        · subst h0
          exact (hne (firstCells_zero (n := Nat.min m 0) (by simp) h1)).elim
  · cases d <;> cases h

theorem clear_some {φ : Phi} {B : Base} {s s' : St} {w : World} (hR : Rel φ B s.t.get w) {ts : Array TypeId} {ty t elem : TypeId} {r' : List Value} {N o ln c' : Nat} {L : Loc} {v : Value} (hd : T.und t = some (.slice elem)) (hL : φ N = some L)
    (e0 : ts[0]? = some t) (h : (match zeros T elem (ln + 1) with
      | some z => bnd (storeCells N o z) fun _ => ret (.tuple #[])
      | none => fail : M Value) s = some (v, s')) : Came φ B s w v s' ((Builtin.clear_ ts ty ⟨.slice (some ⟨L.blk, L.off + o, none⟩) (ln + 1) c' :: r'⟩).run P w) := by
  rcases hz : zeros T elem (ln + 1) with _ | z
  · simp [hz, fail] at h
  simp only [hz] at h
  obtain ⟨zv, k, z1, z2, z3, rfl, z5⟩ := zeros_some hT hz
  obtain ⟨_, s2, h3, h4⟩ := bnd_some h
  obtain ⟨rfl, rfl⟩ := ret_some h4
  obtain ⟨hnx, hst⟩ := sim_storeCells (P := P) hT hR (Flat.lrel z5) h3
  have hzc : (Builtin.zeroCells zv.cells (ln + 1)).toList = rep (ln + 1) zv.cells.toList := made_rep _ _ _ rfl
  rcases hst with ⟨he, rfl⟩ | ⟨hne, L', w2, hL', hrun, hR', hK⟩
  · refine .same hR ?_ VRel.undef
    simp only [Builtin.clear_, e0, List.getElem?_toArray, List.getElem?_cons_zero, Sem.run_bind, run_und hT hd, Result.andThen_ok, Sem.run_pure, run_zero hT z1, hzc, he, Go.storeCells]
    rfl
  · rw [hL] at hL'; cases hL'
    refine ⟨φ, w2, _, ?_, by omega, .refl _ _ _, hR', VRel.undef, hK⟩
    simp only [Builtin.clear_, e0, List.getElem?_toArray, List.getElem?_cons_zero, Sem.run_bind, run_und hT hd, Result.andThen_ok, Sem.run_pure, run_zero hT z1, hzc, hrun]
    rfl

theorem sim_clear {φ : Phi} {B : Base} {s s' : St} {w : World} (hR : Rel φ B s.t.get w) {ts : Array TypeId} {ty : TypeId} {args args' : List Value} (ha : LRel φ args args') {v : Value}
    (h : clear T ts.toList args s = some (v, s')) : Came φ B s w v s' ((Builtin.clear_ ts ty ⟨args'⟩).run P w) := by
  generalize hts : ts.toList = tl at h
  rcases tl with _ | ⟨t, tr⟩
  · cases h
  rcases args with _ | ⟨x, r⟩
  · cases h
  obtain ⟨x', r', rfl, hx, _⟩ := ha.cons_inv
  have e0 : ts[0]? = some t := by rw [← Array.getElem?_toList, hts]; rfl
  simp only [clear] at h
  rcases hd : T.und t with _ | k
  · simp [hd, fail] at h
  cases k <;> simp only [hd] at h <;> try (cases h; done)
  rename_i elem
  cases hx <;> (try simp only at h) <;> try (cases h; done)
  · rename_i l c hc
    obtain ⟨rfl, rfl⟩ := ret_some h
    refine .same hR ?_ VRel.undef
    simp only [Builtin.clear_, e0, List.getElem?_toArray, List.getElem?_cons_zero, Sem.run_bind, run_und hT hd, Result.andThen_ok, Sem.run_pure]
    cases l <;> rfl
  · rename_i N o L ln cap hL hc
    cases ln with
    | zero =>
      simp only at h
      obtain ⟨rfl, rfl⟩ := ret_some h
      refine .same hR ?_ VRel.undef
      simp only [Builtin.clear_, e0, List.getElem?_toArray, List.getElem?_cons_zero, Sem.run_bind, run_und hT hd, Result.andThen_ok, Sem.run_pure]
      rfl
    | succ ln =>
      simp only at h
      exact clear_some hT hR hd hL e0 h
  · rename_i N o L ln es cap' hL hc hl he
    cases ln with
    | zero =>
      simp only at h
      obtain ⟨rfl, rfl⟩ := ret_some h
      refine .same hR ?_ VRel.undef
      simp only [Builtin.clear_, e0, List.getElem?_toArray, List.getElem?_cons_zero, Sem.run_bind, run_und hT hd, Result.andThen_ok, Sem.run_pure]
      rfl
    | succ ln =>
      simp only at h
      exact clear_some hT hR hd hL e0 h
  · obtain ⟨rfl, rfl⟩ := ret_some h
    refine .same hR ?_ VRel.undef
    simp only [Builtin.clear_, e0, List.getElem?_toArray, List.getElem?_cons_zero, Sem.run_bind, run_und hT hd, Result.andThen_ok, Sem.run_pure]
    rfl

end
end Go.Ev

/-
  EV, PART K: conversions; a string's walk; a Builder's string.
-/
namespace Go.Ev
open Go Go.RowKit

theorem bytesOf_rel {φ : Phi} : ∀ {l l' : List Value} {bs : List UInt8}, bytesOf l = some bs → LRel φ l l' → ∃ ns : List Int, l' = ns.map (Value.int .u8) ∧ bs = ns.map (fun n => UInt8.ofNat n.toNat)
  | [], l', bs, h, hl => by
    obtain rfl := hl.nil_inv
    simp [bytesOf] at h; subst h
    exact ⟨[], rfl, rfl⟩
  | a :: r, l', bs, h, hl => by
    obtain ⟨a', r', rfl, ha, hr⟩ := hl.cons_inv
    cases a <;> (try simp only [bytesOf] at h) <;> try (cases h; done)
    rename_i k n
    cases k <;> (try simp only [bytesOf] at h) <;> try (cases h; done)
    simp only [Option.map_eq_some_iff] at h
    obtain ⟨b, hb, rfl⟩ := h
    obtain ⟨ns, rfl, rfl⟩ := bytesOf_rel hb hr
    cases ha
    exact ⟨n :: ns, rfl, rfl⟩

theorem foldl_push_ints : ∀ (ns : List Int) (r : ByteArray), ns.foldl (fun r n => r.push (UInt8.ofNat n.toNat)) r = ⟨r.data ++ (ns.map (fun n => UInt8.ofNat n.toNat)).toArray⟩
  | [], r => by simp
  | n :: ns, r => by
    simp only [List.foldl_cons]
    rw [foldl_push_ints ns]
    simp [ByteArray.push]

theorem run_loadBytes {P : Program} {w : World} (b o : Nat) : ∀ (ns : List Int) (i : Nat) (acc : ByteArray), (∀ j n, ns[j]? = some n → w.cell? ⟨b, o + i + j, none⟩ = some (.int .u8 n)) →
    (Go.loadBytes ⟨b, o + i, none⟩ acc ns.length).run P w = .ok ⟨acc.data ++ (ns.map (fun n => UInt8.ofNat n.toNat)).toArray⟩ w
  | [], i, acc, _ => by simp [Go.loadBytes]
  | n :: ns, i, acc, h => by
    have h0 := h 0 n rfl
    rw [Nat.add_zero] at h0
    have hadd : Addr.add ⟨b, o + i, none⟩ 1 = ⟨b, o + (i + 1), none⟩ := by rw [add_addr]; simp [Nat.add_assoc]
    simp only [List.length_cons, Go.loadBytes, Sem.run_bind, run_load, h0, Result.andThen_ok, hadd]
    rw [run_loadBytes b o ns (i + 1) _ (fun j m hj => by have := h (j + 1) m (by simpa using hj); rwa [show o + i + (j + 1) = o + (i + 1) + j by omega] at this)]
    congr 1
    simp [ByteArray.push]

section
variable {T : Tab} {P : Program} (hT : T.Ok P)
include hT

omit hT in
theorem shape_of {w : World} {b : Nat} {c : Array Value} {e : TypeId} {fz : Nat × Nat} (h : w.heap[b]? = some (.cells c e fz)) : w.shape? b = some (e, c.size) := by
  simp [World.shape?, h]

omit hT in
theorem isByte_und {e : TypeId} (h : isByte T e = true) : T.und e = some (.int .u8) := by
  unfold isByte at h
  split at h
  · assumption
  · cases h

omit hT in
theorem run_mod0 {a k : Nat} (h : a % (k + 1) = 0) : a = a / (k + 1) * (k + 1) := by
  have := Nat.div_add_mod a (k + 1)
  rw [h, Nat.add_zero, Nat.mul_comm] at this
  exact this.symm

/-- Bytes that lie in a row, as many as asked. -/
theorem run_variablesAt {B : Base} (hBz : B.sz = P.cellsOf) {L : Loc} {c : Array Value} {e : TypeId} {fz : Nat × Nat} {w : World} {k o n : Nat} (hk : w.heap[L.blk]? = some (.cells c e fz)) (he : T.size e = some (k + 1))
    (hd : L.off % B.sz e = 0) (ho : o % (k + 1) = 0) (hn : L.off + o + n * (k + 1) ≤ c.size) : (variablesAt ⟨L.blk, L.off + o, none⟩ e n).run P w = .ok true w := by
  have hc : P.cellsOf e = k + 1 := cellsOf_size hT he
  rw [hBz, hc] at hd
  have hdep : ∃ d, P.depth = d + 1 := ⟨P.depth - 1, by unfold Program.depth; omega⟩
  obtain ⟨d, hdep⟩ := hdep
  have hmod : (L.off + o) % (k + 1) = 0 := by rw [Nat.add_mod, hd, ho]; simp
  have hdiv := run_mod0 hmod
  generalize (L.off + o) / (k + 1) = q at hdiv
  have hle : q + n ≤ c.size / (k + 1) := by
    rw [Nat.le_div_iff_mul_le (by omega), Nat.add_mul, ← hdiv]; exact hn
  have hfit : sameLayout P P.depth e e = true := by rw [hdep]; unfold sameLayout; simp
  have hrow : rowAt P (sameLayout P P.depth · e) P.depth e (c.size / (k + 1)) (L.off + o) n = true := by
    rw [hdep]
    unfold rowAt
    simp only [hc]
    rw [if_neg (by omega)]
    have hq : (L.off + o) / (k + 1) = q := by rw [hdiv, Nat.mul_div_cancel _ (by omega)]
    simp only [hmod, hq]
    rw [← hdep, hfit]
    simp [hle]
  have hl : liesAt P P.depth e (c.size / (k + 1)) (L.off + o) e n = true := by
    rw [hdep]
    unfold liesAt
    rw [hrow]
    simp
  simp [variablesAt, shape_of hk, hc, hl]

theorem bytes_some {φ : Phi} {B : Base} {s s' : St} {w : World} (hR : Rel φ B s.t.get w) {src dst e : TypeId} {N o len cap : Nat} {x' v : Value} (us : (underlying src).run P w = .ok (.slice e) w) (ud : (underlying dst).run P w = .ok .string w)
    (ue : (underlying e).run P w = .ok (.int .u8) w) (hx : VRel φ (.slice (some ⟨N, o, none⟩) len cap) x') (h : (if len = 0 then ret (.string ⟨⟨[]⟩⟩) else bytesToStr N o len : M Value) s = some (v, s')) : Came φ B s w v s' ((Go.convert src dst x').run P w) := by
  have _ := hT
  have key : ∀ (a' : Addr) (cap' : Nat), (Go.convert src dst (.slice (some a') len cap')).run P w = ((Conv.bytesToString (.slice (some a') len cap')).run P w) := fun a' cap' => by
    simp [Go.convert, us, ud, ue]
  split at h
  · rename_i h0
    subst h0
    obtain ⟨rfl, rfl⟩ := ret_some h
    cases hx <;> (refine .same hR ?_ (.string _); rw [key]; rfl)
  · rename_i hne
    unfold bytesToStr at h
    obtain ⟨⟨vs, e, hi⟩, s1, h1, h2⟩ := bnd_some h
    obtain ⟨hN, rfl⟩ := rowOf_some h1
    simp only at h2 hN
    obtain ⟨l, s2, h3, h4⟩ := bnd_some h2
    obtain ⟨hl, rfl⟩ := lift_some h3
    obtain ⟨rfl, rfl⟩ := ret_some h4
    simp only [Option.bind_eq_some_iff] at hl
    obtain ⟨r, hr, hb⟩ := hl
    obtain ⟨L, r', hL, hrel, hrun⟩ := hR.cells hN (P := P) hr
    obtain ⟨ns, rfl, rfl⟩ := bytesOf_rel hb hrel
    have hlen : ns.length = len := by have := hrel.1; simp at this; rw [← this]; exact (slice_length hr).1
    have fin : ∀ cap', (Go.convert src dst (.slice (some ⟨L.blk, L.off + o, none⟩) len cap')).run P w = .ok (.string ⟨⟨ns.map fun n => UInt8.ofNat n.toNat⟩⟩) w := fun cap' => by
      rw [key, run_bytesToString w _ len cap' ns hrun, foldl_push_ints]
      have he0 : ByteArray.empty.data = #[] := rfl
      rw [he0]
      simp
    cases hx with
    | sliceEx _ _ hL' _ => rw [hL] at hL'; cases hL'; exact .same hR (fin _) (.string _)
    | sliceEnd _ _ _ hL' _ _ _ => rw [hL] at hL'; cases hL'; exact .same hR (fin _) (.string _)
    | sliceGone => exact absurd rfl hne

theorem sim_convertD {φ : Phi} {B : Base} (hBz : B.sz = P.cellsOf) {s s' : St} {w : World} (hR : Rel φ B s.t.get w) (hf : Fresh φ s.next s'.next) {src dst : TypeId} {ds dd : TypeDesc} (hs : T.und src = some ds) (hd : T.und dst = some dd) {x x' v : Value} (hx : VRel φ x x')
    (h : convertD T ds dd x s = some (v, s')) : Came φ B s w v s' ((Go.convert src dst x').run P w) := by
  have hEND : END = 4611686018427387904 := rfl
  have us := run_und hT hs w
  have ud := run_und hT hd w
  cases dd <;> simp only [convertD] at h <;> try (cases h; done)
  · cases hx <;> simp only at h <;> try (cases h; done)
    obtain ⟨rfl, rfl⟩ := ret_some h
    refine .same hR ?_ (.int _ _)
    cases ds <;> simp [Go.convert, us, ud, Conv.intToInt]
  · have hx0 := hx
    cases hx <;> (try simp only at h) <;> try (cases h; done)
    · obtain ⟨rfl, rfl⟩ := ret_some h
      refine .same hR ?_ (.string _)
      cases ds <;> simp [Go.convert, us, ud, Conv.intToString]
    · obtain ⟨rfl, rfl⟩ := ret_some h
      refine .same hR ?_ (.string _)
      cases ds <;> simp [Go.convert, us, ud]
    all_goals
      cases ds <;> (try simp only at h) <;> try (cases h; done)
      rename_i e
      split at h <;> try (cases h; done)
      rename_i hb
      have he := isByte_und hb
      have ue := run_und hT he w
    · obtain ⟨rfl, rfl⟩ := ret_some h
      refine .same hR ?_ (.string _)
      simp [Go.convert, us, ud, ue, Conv.bytesToString]
    · exact bytes_some hT hR us ud ue hx0 h
    · exact bytes_some hT hR us ud ue hx0 h
    · simp only [if_true] at h
      rename_i a a' cap'
      obtain ⟨N, o, sp⟩ := a
      cases sp <;> simp only at h <;> try (cases h; done)
      obtain ⟨rfl, rfl⟩ := ret_some h
      refine .same hR ?_ (.string _)
      simp [Go.convert, us, ud, ue, Conv.bytesToString, Go.loadCells, Go.loadCellsFrom]
      rfl
  · -- to unsafe.Pointer
    cases ds <;> simp only at h <;> try (cases h; done)
    rename_i t
    cases hx <;> (try simp only at h) <;> try (cases h; done)
    rename_i N o L hL
    unfold toUnsafe at h
    rcases ht : T.size t with _ | _ | n
    · simp [ht, fail] at h
    · simp [ht, fail] at h
    · simp only [ht] at h
      obtain ⟨⟨vs, e, hi⟩, s1, h1, h2⟩ := bnd_some h
      obtain ⟨hN, rfl⟩ := rowOf_some h1
      simp only at h2 hN
      split at h2
      · rename_i ho
        obtain ⟨rfl, rfl⟩ := ret_some h2
        refine .same hR ?_ (.ptr hL)
        obtain ⟨L2, hL2, c, fz, k1, k2, k3, k4, k5⟩ := hR.blk N _ hN
        rw [hL] at hL2; cases hL2
        have hsh := shape_of k1
        have hlt : ¬ (c.size ≤ L.off + o) := by omega
        simp [Go.convert, us, ud, Conv.unsafePointer, Conv.seenAt, viewAt, hsh, cellsIn, run_size hT ht, hlt]
      · cases h2
  · -- and back
    rename_i t
    cases ds <;> simp only at h <;> try (cases h; done)
    cases hx <;> (try simp only at h) <;> try (cases h; done)
    rename_i N o L hL
    unfold fromUnsafe at h
    rcases ht : T.size t with _ | _ | n
    · simp [ht, fail] at h
    · simp [ht, fail] at h
    · simp only [ht] at h
      obtain ⟨⟨vs, e, hi⟩, s1, h1, h2⟩ := bnd_some h
      obtain ⟨hN, rfl⟩ := rowOf_some h1
      simp only at h2 hN
      split at h2
      · rename_i hc
        obtain ⟨rfl, c2, c3, c4⟩ := hc
        obtain ⟨rfl, rfl⟩ := ret_some h2
        refine .same hR ?_ (.ptr hL)
        obtain ⟨L2, hL2, c, fz, k1, k2, k3, k4, k5⟩ := hR.blk N _ hN
        rw [hL] at hL2; cases hL2
        have hsh := shape_of k1
        have hva := run_variablesAt (n := 1) hT hBz k1 ht (k5 c2).2.2 c3 (by omega)
        simp [Go.convert, us, ud, Conv.unsafePointer, Conv.seenAt, viewAt, hsh, run_size hT ht, hva]
      · cases h2
  · -- a string's bytes
    rename_i e
    cases ds <;> simp only at h <;> try (cases h; done)
    cases hx <;> (try simp only at h) <;> try (cases h; done)
    rename_i str
    split at h <;> try (cases h; done)
    rename_i hb
    have he := isByte_und hb
    unfold strToBytes at h
    split at h
    · rename_i hlen
      obtain ⟨N, s1, h1, h2⟩ := bnd_some h
      obtain ⟨rfl, rfl⟩ := newB_some h1
      obtain ⟨rfl, rfl⟩ := ret_some h2
      have hfr : φ s.next = none := hf s.next (Nat.le_refl _) (by simp)
      have hrun := run_bytes_of_string (P := P) w src dst e str (hT.und _ _ hs) (hT.und _ _ hd) (hT.und _ _ he)
      have hsz : str.data.toList.length = str.size := Array.length_toList
      have hge := grownCap_ge w str.size 0 e
      generalize grownCap w str.size 0 e = cap at hge hrun
      have hbs : (bytesRow str cap).size = cap := by
        have : str.data.size = str.size := rfl
        simp [bytesRow, this]; omega
      have hRn := (hR.heap (w' := w.drew) rfl).newRow hfr (byteVals str.data.toList) (bytesRow str cap) e END ((bytesRow str cap).size, (bytesRow str cap).size + 1)
        (by rw [hbs]; simp [byteVals]; omega) (fun i v hv => ⟨v, by
          have hi : i < str.data.toList.length := by have := (List.getElem?_eq_some_iff.1 hv).1; simpa [byteVals] using this
          rw [← hv]
          have hi' : i < str.data.size := by simpa using hi
          simp only [bytesRow, byteVals]
          rw [Array.getElem?_append_left (by simpa using hi')]
          simp, by
          simp only [byteVals, List.getElem?_map, Option.map_eq_some_iff] at hv
          obtain ⟨b, _, rfl⟩ := hv
          exact .int _ _⟩) (fun hh => by omega)
      refine ⟨_, _, _, hrun, by simp, .add ⟨w.heap.size, 0, (bytesRow str cap).size⟩ hfr hR.newOk, by simp only; rw [get_upd]; exact hRn, ?_, .grow⟩
      rw [hsz]
      exact VRel.sliceEnd (L := ⟨w.heap.size, 0, (bytesRow str cap).size⟩) _ 1 cap (Phi.add_same _ _ _) (by simp only [hbs]; omega) hge (by omega)
    · cases h

theorem sim_convert {φ : Phi} {B : Base} (hBz : B.sz = P.cellsOf) {s s' : St} {w : World} (hR : Rel φ B s.t.get w) (hf : Fresh φ s.next s'.next) {src dst : TypeId} {x x' v : Value} (hx : VRel φ x x')
    (h : convert T src dst x s = some (v, s')) : Came φ B s w v s' ((Go.convert src dst x').run P w) := by
  unfold convert at h
  rcases hs : T.und src with _ | ds
  · simp [hs, fail] at h
  rcases hd : T.und dst with _ | dd
  · simp [hs, hd, fail] at h
  simp only [hs, hd] at h
  exact sim_convertD hT hBz hR hf hs hd hx h

theorem sim_unsafeString {φ : Phi} {B : Base} (hBz : B.sz = P.cellsOf) {s s' : St} {w : World} (hR : Rel φ B s.t.get w) {ts : Array TypeId} {ty : TypeId} {args args' : List Value} (ha : LRel φ args args') {v : Value}
    (h : unsafeStr T ts.toList args s = some (v, s')) : Came φ B s w v s' ((Builtin.unsafeString_ ts ty ⟨args'⟩).run P w) := by
  have hEND : END = 4611686018427387904 := rfl
  generalize hts : ts.toList = tl at h
  rcases tl with _ | ⟨t, tr⟩
  · cases h
  rcases args with _ | ⟨p, _ | ⟨n, _ | ⟨y, r⟩⟩⟩
  · cases h
  · cases p <;> cases h
  · obtain ⟨p', r1, rfl, hp, ha1⟩ := ha.cons_inv
    obtain ⟨n', r2, rfl, hn, ha2⟩ := ha1.cons_inv
    obtain rfl := ha2.nil_inv
    have e0 : ts[0]? = some t := by rw [← Array.getElem?_toList, hts]; rfl
    simp only [unsafeStr] at h
    cases hn <;> (try simp only at h) <;> try (cases p <;> cases h; done)
    rename_i k n
    have hn0 : ∀ (q : Option Addr), n = 0 → (Builtin.unsafeString_ ts ty #[.pointer q, .int k n]).run P w = .ok (.string .empty) w := fun q h0 => by
      subst h0
      change Sem.run P (Go.asInt (.int k 0) >>= _) w = _
      rw [Sem.run_bind]
      cases q <;> simp [Go.asInt, asIntOf, e0]
    cases hp <;> (try simp only at h) <;> try (cases h; done)
    · split at h
      · rename_i h0
        obtain ⟨rfl, rfl⟩ := ret_some h
        exact .same hR (hn0 _ h0) (.string _)
      · cases h
    · rename_i N o L hL
      split at h
      · rename_i h0
        obtain ⟨rfl, rfl⟩ := ret_some h
        exact .same hR (hn0 _ h0) (.string _)
      · rename_i h0
        split at h
        · cases h
        · rename_i hneg
          obtain ⟨⟨vs, e, hi⟩, s1, h1, h2⟩ := bnd_some h
          obtain ⟨hN, rfl⟩ := rowOf_some h1
          simp only at h2 hN
          obtain ⟨l, s2, h3, h4⟩ := bnd_some h2
          obtain ⟨hl, rfl⟩ := lift_some h3
          split at h4
          · rename_i hc
            obtain ⟨c1, c2, c3, rfl, c5, c6⟩ := hc
            obtain ⟨_, s3, h5, h6⟩ := bnd_some h4
            obtain ⟨_, rfl⟩ := setB_some h5
            obtain ⟨rfl, rfl⟩ := ret_some h6
            simp only [Option.bind_eq_some_iff] at hl
            obtain ⟨r, hr, hb⟩ := hl
            obtain ⟨hrl, hrv⟩ := slice_length hr
            obtain ⟨L2, hL2, c, fz, k1, k2, k3, k4, k5⟩ := hR.blk N _ hN
            rw [hL] at hL2; cases hL2
            obtain ⟨hB, hfz, hdv⟩ := k5 c5
            have hpt : P.underlying t = some (.pointer e) := by
              unfold ptrElem at c1
              split at c1
              · rename_i e' hu; cases c1; exact hT.und _ _ hu
              · cases c1
            have hnlen : n.toNat ≤ vs.length := by
              have := hrl; rw [hrv] at this; simp at this; omega
            have hva := run_variablesAt (n := n.toNat) (o := 0) (k := 0) hT hBz k1 c3 hdv (by simp) (by omega)
            rw [Nat.add_zero] at hva
            -- the bytes
            have hrel : LRel φ r ((List.range n.toNat).map fun i => (c[L.off + i]?).getD undef) := by
              refine ⟨by simp [hrl], fun i v v' hv hv' => ?_⟩
              have hi' : i < n.toNat := by have := (List.getElem?_eq_some_iff.1 hv).1; omega
              rw [hrv, List.getElem?_take, if_pos hi', List.getElem?_drop] at hv
              obtain ⟨v2, q1, q2⟩ := k4 _ _ hv
              rw [List.getElem?_map, List.getElem?_range hi'] at hv'
              rw [Nat.zero_add] at q1
              simp only [Option.map_some, q1, Option.getD_some, Option.some.injEq] at hv'
              subst hv'; exact q2
            obtain ⟨ns, hns, rfl⟩ := bytesOf_rel hb hrel
            have hnl : ns.length = n.toNat := by have := congrArg List.length hns; simp at this; exact this.symm
            have hload := run_loadBytes (P := P) (w := w) L.blk L.off ns 0 .empty (fun j m hj => by
              have hj' : j < n.toNat := by have := (List.getElem?_eq_some_iff.1 hj).1; omega
              have hg : ((List.range n.toNat).map fun i => (c[L.off + i]?).getD undef)[j]? = some (.int .u8 m) := by rw [hns, List.getElem?_map, hj]; rfl
              rw [List.getElem?_map, List.getElem?_range hj'] at hg
              simp only [Option.map_some, Option.some.injEq] at hg
              rw [Array.getElem?_eq_getElem (by omega)] at hg
              simp only [Option.getD_some] at hg
              rw [Nat.add_zero]
              simp only [World.cell?, k1]
              simp [Array.getElem?_eq_getElem (show L.off + j < c.size by omega), hg])
            rw [hnl, Nat.add_zero] at hload
            have hfz2 : (w.freeze ⟨L.blk, L.off, none⟩ n.toNat).heap[L.blk]? = some (.cells c e (if fz.1 == fz.2 then (L.off, L.off + n.toNat) else (min fz.1 L.off, max fz.2 (L.off + n.toNat)))) := by
              unfold World.freeze
              rw [if_neg (by omega)]
              simp [Array.getElem?_modify, k1]
            have hoth : ∀ q, q ≠ L.blk → (w.freeze ⟨L.blk, L.off, none⟩ n.toNat).heap[q]? = w.heap[q]? := fun q hq => by
              unfold World.freeze
              rw [if_neg (by omega)]
              simp [Array.getElem?_modify, Ne.symm hq]
            have hsize : (w.freeze ⟨L.blk, L.off, none⟩ n.toNat).heap.size = w.heap.size := by
              unfold World.freeze
              rw [if_neg (by omega)]
              simp
            have ho : (w.freeze ⟨L.blk, L.off, none⟩ n.toNat).os = w.os ∧ (w.freeze ⟨L.blk, L.off, none⟩ n.toNat).tape = w.tape ∧ (w.freeze ⟨L.blk, L.off, none⟩ n.toNat).output = w.output := by
              unfold World.freeze
              rw [if_neg (by omega)]
              exact ⟨rfl, rfl, rfl⟩
            have hwr : wr (.cells vs e hi) := c5
            have hmx : Nat.max hi n.toNat < END := Nat.max_lt.2 ⟨c5, c6⟩
            have hge1 : hi ≤ Nat.max hi n.toNat := Nat.le_max_left _ _
            have hge2 : n.toNat ≤ Nat.max hi n.toNat := Nat.le_max_right _ _
            refine ⟨φ, w.freeze ⟨L.blk, L.off, none⟩ n.toNat, .string ⟨⟨ns.map fun n => UInt8.ofNat n.toNat⟩⟩, ?_, by simp, .refl _ _ _, ?_, .string _, Keeps.set hN hL hwr ho.1 ho.2.1 ho.2.2 hsize hoth⟩
            · have h63 : ¬ (n > IntKind.i64.max) := by rw [IntKind.max_i64]; omega
              have hel : (elemOf t).run P w = .ok e w := by simp [elemOf, run_underlying hpt]
              have he0 : ByteArray.empty.data = #[] := rfl
              rw [he0] at hload
              change Sem.run P (Go.asInt (.int k n) >>= _) w = _
              rw [Sem.run_bind]
              simp only [Go.asInt, asIntOf, e0, Sem.run_bind, Sem.run_pure, Result.andThen_ok, hneg, if_false, h63, h0, Nat.add_zero, hel, hva, if_true, hload, run_freeze]
              simp
            · simp only
              rw [get_upd]
              refine hR.set hN hL hwr _ hsize hoth ⟨c, _, hfz2, k2, k3, k4, fun _ => ⟨hB, ?_, hdv⟩⟩
              by_cases hq : fz.1 = fz.2
              · simp [hq]; right; omega
              · simp only [beq_iff_eq, hq, if_false]
                right
                rcases hfz with hfz | hfz
                · exact absurd hfz hq
                · have : max fz.2 (L.off + n.toNat) ≤ L.off + Nat.max hi n.toNat := by omega
                  exact this
          · cases h4
  · cases p <;> cases h

end
end Go.Ev

/-
  EV, PART L: each operation that calls no function of the program.
-/
namespace Go.Ev
open Go Go.RowKit

/-- What an operation hands on. -/
def NRel (φ : Phi) (v : Value) (nx : Next) : Prop := (∃ v', nx = .value v' ∧ VRel φ v v') ∨ (nx = .skip ∧ v = undef)

/-- What an operation comes to. -/
def OpCame (φ : Phi) (B : Base) (s : St) (w : World) (v : Value) (s' : St) (r : Result Next) : Prop :=
  ∃ φ' w' nx, r = .ok nx w' ∧ s.next ≤ s'.next ∧ Grows B φ φ' s.next s'.next ∧ Rel φ' B s'.t.get w' ∧ NRel φ' v nx ∧ Keeps φ s.t.get w w'

theorem Came.op {φ : Phi} {B : Base} {s s' : St} {w : World} {v : Value} {P : Program} {m : Sem Value} (h : Came φ B s w v s' (m.run P w)) : OpCame φ B s w v s' ((do pure (.value (← m)) : Sem Next).run P w) := by
  obtain ⟨φ', w', v', h1, h2, h3, h4, h5, h6⟩ := h
  exact ⟨φ', w', .value v', by simp [h1], h2, h3, h4, .inl ⟨v', rfl, h5⟩, h6⟩

def opOk (globs : Nat) (o : Op) : Bool := o.operands.toList.all (operandOk globs)

theorem QRel.map {φ : Phi} {ρ ρ' : Operand → Value} : ∀ (x : Option Operand), (∀ y, x = Option.some y → VRel φ (ρ y) (ρ' y)) → QRel φ (x.map ρ) (x.map ρ')
  | Option.none, _ => .none
  | Option.some y, h => .some (h y rfl)

theorem LRel.map {φ : Phi} {ρ ρ' : Operand → Value} : ∀ (l : List Operand), (∀ y ∈ l, VRel φ (ρ y) (ρ' y)) → LRel φ (l.map ρ) (l.map ρ')
  | [], _ => .nil
  | y :: l, h => .cons (h y (by simp)) (LRel.map l fun z hz => h z (by simp [hz]))

section
variable {T : Tab} {P : Program} (hT : T.Ok P)
include hT

theorem sim_range {φ : Phi} {B : Base} {s s' : St} {w : World} (hR : Rel φ B s.t.get w) (hf : Fresh φ s.next s'.next) {t : TypeId} {x x' v : Value} (hx : VRel φ x x')
    (h : rangeOp T t x s = some (v, s')) : Came φ B s w v s' ((Instr.range t x').run P w) := by
  unfold rangeOp at h
  rcases hd : T.und t with _ | d
  · simp [hd, fail] at h
  cases d <;> (try simp only [hd] at h) <;> try (cases h; done)
  cases hx <;> (try simp only at h) <;> try (cases h; done)
  rename_i str
  obtain ⟨N, s1, h1, h2⟩ := bnd_some h
  obtain ⟨rfl, rfl⟩ := newB_some h1
  obtain ⟨rfl, rfl⟩ := ret_some h2
  have hfr : φ s.next = none := hf s.next (Nat.le_refl _) (by simp)
  have hRn := hR.new hfr (.obj (.stringIter str 0)) (.stringIter str 0) ⟨w.heap.size, 0, 0⟩ rfl ⟨_, heap_alloc_new _ _, ⟨rfl, rfl⟩, hR.newOk, rfl⟩
  refine ⟨_, w.alloc (.stringIter str 0), .pointer (some ⟨w.heap.size, 0, none⟩), ?_, by simp, .add _ hfr hR.newOk, by simp only; rw [get_upd]; exact hRn, ?_, .alloc _ _ _ _⟩
  · simp [Instr.range, run_und hT hd]
  · exact VRel.ptr (L := ⟨w.heap.size, 0, 0⟩) (Phi.add_same _ _ _)

omit hT in
theorem sim_next {φ : Phi} {B : Base} {s s' : St} {w : World} (hR : Rel φ B s.t.get w) {x x' v : Value} {isS : Bool} {ty : TypeId} (hx : VRel φ x x')
    (h : nextOp x isS s = some (v, s')) : Came φ B s w v s' ((Instr.next x' isS ty).run P w) := by
  unfold nextOp at h
  split at h
  · rename_i N
    simp only at h
    split at h
    · rename_i str pos hN
      cases hx with
      | @ptr _ _ L hL =>
        obtain ⟨L2, hL2, o', k1, k2, k3, k4⟩ := hR.blk N _ hN
        rw [hL] at hL2; cases hL2
        cases o' <;> simp only [ORel] at k2 <;> try (exact k2.elim)
        obtain ⟨rfl, rfl⟩ := k2
        have hget : (getObj L.blk).run P w = .ok (.stringIter str pos) w := by simp [getObj, Sem.run, k1]
        rw [k4]
        split at h
        · rename_i hlt
          generalize hdec : Utf8.decode str pos = cw at h
          obtain ⟨c, width⟩ := cw
          simp only at h
          obtain ⟨_, s1, h1, h2⟩ := bnd_some h
          obtain ⟨_, rfl⟩ := setB_some h1
          obtain ⟨rfl, rfl⟩ := ret_some h2
          have hset : (setObj L.blk (.stringIter str (pos + width))).run P w = .ok () { w with heap := w.heap.setIfInBounds L.blk (.stringIter str (pos + width)) } := by
            simp [setObj, Sem.run, k1]
          have hb : L.blk < w.heap.size := hR.inw _ _ hL
          refine ⟨φ, { w with heap := w.heap.setIfInBounds L.blk (.stringIter str (pos + width)) }, .tuple #[.bool true, goInt pos, .int .i32 c], ?_, by simp, .refl _ _ _, ?_, ?_, ?_⟩
          · simp [Instr.next, hget, hlt, hdec, hset]
          · simp only
            rw [get_upd]
            refine hR.set hN hL trivial _ (by simp) (fun k hk => by simp [Array.getElem?_setIfInBounds, Ne.symm hk]) ⟨.stringIter str (pos + width), by simp [Array.getElem?_setIfInBounds, hb], ⟨rfl, rfl⟩, k3, k4⟩
          · exact (Flat.tuple _ (fun i v hv => by
              rcases i with _ | _ | _ | i <;> simp at hv <;> subst hv <;> constructor)).vrel
          · exact Keeps.set hN hL trivial rfl rfl rfl (by simp) (fun k hk => by simp [Array.getElem?_setIfInBounds, Ne.symm hk])
        · rename_i hlt
          simp at h
          obtain ⟨rfl, rfl⟩ := h
          refine .same hR (v' := .tuple #[.bool false]) ?_ (Flat.tuple _ (fun i v hv => by rcases i with _ | i <;> simp at hv; subst hv; constructor)).vrel
          simp [Instr.next, hget, hlt]
    · cases h
  · cases h

theorem sim_builtin {φ : Phi} {B : Base} (hBz : B.sz = P.cellsOf) {s s' : St} {w : World} (hR : Rel φ B s.t.get w) (hf : Fresh φ s.next s'.next) {b : Builtin} {ts : Array TypeId} {ty : TypeId} {consts : Array Bool} {args args' : List Value} (ha : LRel φ args args') {v : Value}
    (h : builtin T b ts.toList args s = some (v, s')) : OpCame φ B s w v s' ((Go.builtin b ts ty consts ⟨args'⟩).run P w) := by
  cases b <;> simp only [builtin] at h <;> try (cases h; done)
  · exact (sim_append hT hBz hR hf ha h).op
  · exact (sim_clear hT hR ha h).op
  · exact (sim_copy hT hR ha h).op
  · obtain ⟨rfl, h2, h3⟩ := sim_len hT (ty := ty) hR ha h
    exact (Came.same hR h2 h3.vrel).op
  · obtain ⟨h1, rfl⟩ := lift_some h
    obtain ⟨h2, h3⟩ := sim_minmax (P := P) true w h1 ha ts ty
    exact (Came.same hR h2 h3).op
  · obtain ⟨h1, rfl⟩ := lift_some h
    obtain ⟨h2, h3⟩ := sim_minmax (P := P) false w h1 ha ts ty
    exact (Came.same hR h2 h3).op
  · -- unsafe.SliceData
    obtain ⟨h1, rfl⟩ := lift_some h
    unfold sliceData at h1
    split at h1
    · cases h1
      obtain ⟨x', r', rfl, hx, hr⟩ := ha.cons_inv
      obtain rfl := hr.nil_inv
      cases hx
      refine Came.op (m := Builtin.unsafeSliceData_ ts ty _) (.same hR ?_ .ptrNil)
      rfl
    · rename_i N o l c
      obtain ⟨x', r', rfl, hx, hr⟩ := ha.cons_inv
      obtain rfl := hr.nil_inv
      split at h1
      · rename_i hc
        cases h1
        have fin : ∀ (a : Addr) (c' : Nat), c' ≠ 0 → (Builtin.unsafeSliceData_ ts ty #[.slice (some a) l c']).run P w = .ok (.pointer (some a)) w := fun a c' h0 => by
          change Sem.run P (if c' ≠ 0 then _ else _) w = _
          rw [if_pos h0]; rfl
        cases hx with
        | sliceEx _ _ hL _ => exact Came.op (m := Builtin.unsafeSliceData_ ts ty _) (.same hR (fin _ _ hc.2) (.ptr hL))
        | sliceEnd _ _ _ hL _ hl _ => exact Came.op (m := Builtin.unsafeSliceData_ ts ty _) (.same hR (fin _ _ (by omega)) (.ptr hL))
        | sliceGone => omega
      · cases h1
    · cases h1
  · exact (sim_unsafeString hT hBz hR ha h).op

theorem op_map {m : Sem Value} {r : Value} {w w' : World} (h : m.run P w = .ok r w') : ((do pure (.value (← m)) : Sem Next)).run P w = .ok (.value r) w' := by
  have _ := hT
  simp [h]

set_option maxHeartbeats 1000000 in
theorem sim_plain {φ : Phi} {B : Base} (hBz : B.sz = P.cellsOf) {s s' : St} {w : World} (hR : Rel φ B s.t.get w) (hf : Fresh φ s.next s'.next) {ρ ρ' : Operand → Value} {o : Oper} (hρ : ∀ x ∈ o.op.operands.toList, VRel φ (ρ x) (ρ' x)) {v : Value} (h : evPlain T ρ o.op s = some (v, s')) : OpCame φ B s w v s' ((execOp ρ' o).run P w) := by
  obtain ⟨dst, op, ty, pos, after, guard⟩ := o
  simp only at hρ h
  have pure1 : ∀ {v v' : Value} {m : Sem Value}, s' = s → m.run P w = .ok v' w → VRel φ v v' → OpCame φ B s w v s' ((do pure (.value (← m)) : Sem Next).run P w) := fun hs hm hv => by
    subst hs; exact (Came.same hR hm hv).op
  have ok1 : ∀ {x : Operand}, x ∈ op.operands.toList → VRel φ (ρ x) (ρ' x) := fun {x} hx => hρ x hx
  cases op with
  | move x => obtain ⟨rfl, rfl⟩ := ret_some h; exact (Came.same hR (r := .ok (ρ' x) w) rfl (ok1 (by simp [Op.operands]))).op (m := pure (ρ' x))
  | assign x => obtain ⟨rfl, rfl⟩ := ret_some h; exact (Came.same hR (r := .ok (ρ' x) w) rfl (ok1 (by simp [Op.operands]))).op (m := pure (ρ' x))
  | pick c a b =>
    obtain ⟨h1, rfl⟩ := lift_some h
    have hc : VRel φ (ρ c) (ρ' c) := ok1 (by simp [Op.operands])
    have ha : VRel φ (ρ a) (ρ' a) := ok1 (by simp [Op.operands])
    have hb : VRel φ (ρ b) (ρ' b) := ok1 (by simp [Op.operands])
    generalize ρ c = vc at h1 hc
    cases vc <;> simp only [pickOf] at h1 <;> try (cases h1; done)
    rename_i t
    cases h1
    generalize hvc : ρ' c = vc' at hc
    cases hc
    refine ⟨φ, w, .value (if t then ρ' a else ρ' b), ?_, Nat.le_refl _, .refl _ _ _, hR, .inl ⟨_, rfl, ?_⟩, .refl _ _ _⟩
    · simp [execOp, hvc, asBool]
    · cases t <;> assumption
  | alloc elem =>
    obtain ⟨z, s1, h1, h2⟩ := bnd_some h
    obtain ⟨hz, rfl⟩ := lift_some h1
    have := sim_newVar hT hR hf (hT.zero _ _ hz).2.vrel h2
    have e : (Instr.alloc elem true (.tuple #[])).run P w = (do pure (.pointer (some (← newVar elem z))) : Sem Value).run P w := by
      simp [Instr.alloc, run_zero hT hz]
    rw [← e] at this
    exact this.op
  | box elem x =>
    exact (sim_newVar hT hR hf (ok1 (by simp [Op.operands])) h).op (m := Instr.box elem (ρ' x))
  | build t parts =>
    obtain ⟨h1, rfl⟩ := lift_some h
    obtain ⟨v', hr, hv⟩ := sim_build (parts' := parts.toList.map fun p => (p.1, ρ' p.2)) hT h1 (by simp) (fun i p p' hp hp' => by
      rw [List.getElem?_map] at hp hp'
      obtain ⟨q, hq, rfl⟩ := Option.map_eq_some_iff.1 hp
      rw [hq] at hp'; cases hp'
      exact ⟨rfl, ok1 (by simp [Op.operands]; exact ⟨_, by simpa using List.mem_of_getElem? hq⟩)⟩) w
    have e : (parts.map fun (x : Nat × Operand) => (x.1, ρ' x.2)) = ⟨parts.toList.map fun p => (p.1, ρ' p.2)⟩ := by apply Array.ext'; simp
    refine pure1 rfl (m := Instr.build t (parts.map fun (x : Nat × Operand) => (x.1, ρ' x.2))) ?_ hv
    rw [e]; exact hr
  | buildSlice t n parts =>
    have := sim_buildSlice (parts' := parts.toList.map fun p => (p.1, ρ' p.2)) hT hR hf h (by simp) (fun i p p' hp hp' => by
      rw [List.getElem?_map] at hp hp'
      obtain ⟨q, hq, rfl⟩ := Option.map_eq_some_iff.1 hp
      rw [hq] at hp'; cases hp'
      exact ⟨rfl, ok1 (by simp [Op.operands]; exact ⟨_, by simpa using List.mem_of_getElem? hq⟩)⟩)
    have e : (parts.map fun (x : Nat × Operand) => (x.1, ρ' x.2)) = ⟨parts.toList.map fun p => (p.1, ρ' p.2)⟩ := by apply Array.ext'; simp
    rw [← e] at this
    exact this.op
  | load t a =>
    obtain ⟨rfl, v', hr, hv⟩ := sim_load hT hR (ok1 (x := a) (by simp [Op.operands])) h
    exact pure1 rfl hr hv
  | store t a x =>
    obtain ⟨_, s1, h1, h2⟩ := bnd_some h
    obtain ⟨rfl, rfl⟩ := ret_some h2
    obtain ⟨hn, w', hr, hR', hK⟩ := sim_store hT hR (ok1 (x := a) (by simp [Op.operands])) (ok1 (x := x) (by simp [Op.operands])) h1
    exact ⟨φ, w', .skip, by simp [execOp, hr], by omega, .refl _ _ _, hR', .inr ⟨rfl, rfl⟩, hK⟩
  | nilCheck x =>
    obtain ⟨h1, rfl⟩ := lift_some h
    have hx : VRel φ (ρ x) (ρ' x) := ok1 (by simp [Op.operands])
    refine ⟨φ, w, .value (ρ' x), ?_, Nat.le_refl _, .refl _ _ _, hR, .inl ⟨_, rfl, ?_⟩, .refl _ _ _⟩
    · generalize ρ x = vx at h1 hx
      simp only [execOp]
      generalize ρ' x = vx' at hx
      cases hx <;> simp only [nilChecked] at h1 <;> first
        | (cases h1; done)
        | rfl
    · generalize ρ x = vx at h1 hx
      generalize ρ' x = vx' at hx ⊢
      have hx0 := hx
      cases hx <;> simp only [nilChecked] at h1 <;> first
        | (cases h1; done)
        | (cases h1; exact hx0)
  | binOp op t x y yt =>
    obtain ⟨h1, rfl⟩ := lift_some h
    obtain ⟨v', hr, hv⟩ := sim_binop hT op t x y h1 (ok1 (x := x) (by simp [Op.operands])) (ok1 (x := y) (by simp [Op.operands])) w
    exact pure1 rfl hr hv
  | unOp op t x =>
    obtain ⟨h1, rfl⟩ := lift_some h
    obtain ⟨v', hr, hv⟩ := sim_unop (P := P) hT op h1 (ok1 (x := x) (by simp [Op.operands])) w
    exact pure1 rfl hr hv
  | convert src dst x => exact (sim_convert hT hBz hR hf (ok1 (x := x) (by simp [Op.operands])) h).op
  | makeInterface t x =>
    obtain ⟨h1, rfl⟩ := lift_some h
    unfold makeIface at h1
    have hx : VRel φ (ρ x) (ρ' x) := ok1 (by simp [Op.operands])
    rcases hd : T.und t with _ | d
    · simp [hd] at h1
    · refine pure1 rfl (v' := .iface t (ρ' x)) (m := Instr.makeInterface t (ρ' x)) ?_ ?_
      · cases d <;> simp only [hd] at h1 <;> first
          | (cases h1; done)
          | simp [Instr.makeInterface, run_und hT hd]
      · cases d <;> simp only [hd] at h1 <;> first
          | (cases h1; done)
          | (cases h1; exact .iface t hx)
  | makeFunc fn first captured =>
    cases fn <;> (try simp only at h) <;> try (cases h; done)
    rename_i g
    obtain ⟨rfl, rfl⟩ := ret_some h
    have h1 : LRel φ (first.toList.map ρ) (first.toList.map ρ') := LRel.map _ fun y hy => hρ y (by simp [Op.operands]; exact .inl (by simpa using hy))
    have h2 : LRel φ (captured.toList.map ρ) (captured.toList.map ρ') := LRel.map _ fun y hy => hρ y (by simp [Op.operands]; exact .inr (by simpa using hy))
    refine pure1 rfl (m := Instr.makeFunc (.func g) (first.map ρ') (captured.map ρ')) (v' := .func (.func g) (first.map ρ') (captured.map ρ')) rfl ?_
    have e1 : (first.map ρ').toList = first.toList.map ρ' := by simp
    have e2 : (captured.map ρ').toList = captured.toList.map ρ' := by simp
    exact .func g _ _ _ _ (by rw [e1]; exact h1.1) (by rw [e1]; exact h1.2) (by rw [e2]; exact h2.1) (by rw [e2]; exact h2.2)
  | makeSlice t l c => exact (sim_makeSlice hT hR hf (ok1 (x := l) (by simp [Op.operands])) (ok1 (x := c) (by simp [Op.operands])) h).op
  | slice t x lo hi mx =>
    simp only [evPlain] at h
    split at h
    · cases h
    · rename_i hms
      obtain ⟨h1, rfl⟩ := lift_some h
      obtain ⟨v', hr, hv⟩ := sim_sliceOp hT h1 (ok1 (x := x) (by simp [Op.operands])) (QRel.map lo fun y hy => hρ y (by simp [Op.operands, hy])) (QRel.map hi fun y hy => hρ y (by simp [Op.operands, hy]))
        (QRel.map mx fun y hy => hρ y (by simp [Op.operands, hy])) (fun hm => by cases mx <;> cases hi <;> simp_all) w
      exact pure1 rfl hr hv
  | fieldAddr st x i =>
    obtain ⟨h1, rfl⟩ := lift_some h
    obtain ⟨v', hr, hv⟩ := sim_fieldAddr hT h1 (ok1 (x := x) (by simp [Op.operands])) w
    exact pure1 rfl hr hv
  | field t x i =>
    obtain ⟨h1, rfl⟩ := lift_some h
    obtain ⟨v', hr, hv⟩ := sim_field hT h1 (ok1 (x := x) (by simp [Op.operands])) w
    exact pure1 rfl hr hv
  | indexAddr t x i =>
    obtain ⟨h1, rfl⟩ := lift_some h
    obtain ⟨v', hr, hv⟩ := sim_indexAddr hT h1 (ok1 (x := x) (by simp [Op.operands])) (ok1 (x := i) (by simp [Op.operands])) w
    exact pure1 rfl hr hv
  | index t x i =>
    obtain ⟨h1, rfl⟩ := lift_some h
    obtain ⟨v', hr, hv⟩ := sim_index hT h1 (ok1 (x := x) (by simp [Op.operands])) (ok1 (x := i) (by simp [Op.operands])) w
    exact pure1 rfl hr hv
  | range t x => exact (sim_range hT hR hf (ok1 (x := x) (by simp [Op.operands])) h).op
  | next it isS => exact (sim_next (P := P) hR (ok1 (x := it) (by simp [Op.operands])) h).op
  | typeAssert x xt a ok =>
    obtain ⟨h1, rfl⟩ := lift_some h
    obtain ⟨v', hr, hv⟩ := sim_typeAssert (xt := xt) hT h1 (ok1 (x := x) (by simp [Op.operands])) w
    exact pure1 rfl hr hv
  | extract t i =>
    obtain ⟨h1, rfl⟩ := lift_some h
    have hx : VRel φ (ρ t) (ρ' t) := ok1 (by simp [Op.operands])
    generalize ρ t = vx at h1 hx
    have : ∃ v', (Instr.extract (ρ' t) i).run P w = .ok v' w ∧ VRel φ v v' := by
      generalize ρ' t = vx' at hx
      cases hx <;> simp only [extractOf] at h1 <;> try (cases h1; done)
      rename_i a a' hl hv
      obtain ⟨v', q1, q2⟩ := LRel.get ⟨hl, hv⟩ h1
      rw [Array.getElem?_toList] at q1
      exact ⟨v', by simp [Instr.extract, q1], q2⟩
    obtain ⟨v', hr, hv⟩ := this
    exact pure1 rfl hr hv
  | call c =>
    obtain ⟨callee, args, ts⟩ := c
    cases callee <;> (try simp only at h) <;> try (cases h; done)
    rename_i b
    have ha : LRel φ (args.toList.map ρ) (args.toList.map ρ') := LRel.map _ fun y hy => hρ y (by simp [Op.operands, Call.operands]; simpa using hy)
    have e : args.map ρ' = ⟨args.toList.map ρ'⟩ := by apply Array.ext'; simp
    have := sim_builtin (ty := ty) (consts := args.map fun | .const _ => true | _ => false) hT hBz hR hf ha h
    obtain ⟨φ', w', nx, q1, q2⟩ := this
    refine ⟨φ', w', nx, ?_, q2⟩
    simp only [execOp, resolve, Sem.run_bind, Sem.run_pure, Result.andThen_ok, invoke]
    rw [e]; exact q1
  | _ => cases h

end
end Go.Ev

/-
  EV, PART M: the machine's steps, one by one, for whatever frame (a round of a loop over a function, too).
-/
namespace Go.Ev
open Go Go.RowKit

section
variable {P : Program} {fc : Frame} {cs : List Frame} {w : World} {k : List Item}

theorem st_seq {a b : Code} (hm : fc.mode = .run) (ht : fc.todo = .code (.seq a b) :: k) : step P (lone fc cs w) = .next (lone { fc with todo := .code a :: .code b :: k } cs w) :=
  step_lone_go (by cases fc; simp only at hm ht; subst hm ht; simp [stepG, stepG.exec])
theorem st_skip (hm : fc.mode = .run) (ht : fc.todo = .code .skip :: k) : step P (lone fc cs w) = .next (lone { fc with todo := k } cs w) :=
  step_lone_go (by cases fc; simp only at hm ht; subst hm ht; simp [stepG, stepG.exec])
theorem st_inBlock {id : Nat} (hm : fc.mode = .run) (ht : fc.todo = .inBlock id :: k) : step P (lone fc cs w) = .next (lone { fc with todo := k } cs w) :=
  step_lone_go (by cases fc; simp only at hm ht; subst hm ht; simp [stepG, stepG.exec])
theorem st_block {id : Nat} {b : Code} (hm : fc.mode = .run) (ht : fc.todo = .code (.block id b) :: k) : step P (lone fc cs w) = .next (lone { fc with todo := .code b :: .inBlock id :: k } cs w) :=
  step_lone_go (by cases fc; simp only at hm ht; subst hm ht; simp [stepG, stepG.exec])
theorem st_loop {b : Code} (hm : fc.mode = .run) (ht : fc.todo = .code (.loop b) :: k) : step P (lone fc cs w) = .next (lone { fc with todo := .code b :: .inLoop b :: k } cs w) :=
  step_lone_go (by cases fc; simp only at hm ht; subst hm ht; simp [stepG, stepG.exec])
theorem st_inLoop {b : Code} (hm : fc.mode = .run) (ht : fc.todo = .inLoop b :: k) : step P (lone fc cs w) = .next (lone { fc with todo := .code b :: .inLoop b :: k } cs w) :=
  step_lone_go (by cases fc; simp only at hm ht; subst hm ht; simp [stepG, stepG.exec])
theorem st_cond {c : Operand} {a b : Code} {t : Bool} (hm : fc.mode = .run) (ht : fc.todo = .code (.cond c a b) :: k) (hc : fc.eval c = .bool t) :
    step P (lone fc cs w) = .next (lone { fc with todo := .code (if t then a else b) :: k } cs w) :=
  step_lone_go (by cases fc; simp only at hm ht; subst hm ht; simp [stepG, stepG.exec, hc])
theorem st_exit {id : Nat} {k' : List Item} (hm : fc.mode = .run) (ht : fc.todo = .code (.exit id) :: k) (he : exitTo id k = some k') :
    step P (lone fc cs w) = .next (lone { fc with todo := k' } cs w) :=
  step_lone_go (by cases fc; simp only at hm ht; subst hm ht; simp [stepG, stepG.exec, he])
theorem st_ret (hm : fc.mode = .run) (hr : fc.roundOf = none) (ht : fc.todo = .code .ret :: k) : step P (lone fc cs w) = .next (lone { fc with mode := .returning } cs w) :=
  step_lone_go (by cases fc; simp only at hm ht hr; subst hm ht hr; simp [stepG, stepG.exec])
theorem st_end (hm : fc.mode = .run) (hr : fc.roundOf = none) (ht : fc.todo = []) : step P (lone fc cs w) = .next (lone { fc with mode := .returning } cs w) :=
  step_lone_go (by cases fc; simp only at hm ht hr; subst hm ht hr; simp [stepG, stepG.exec])
theorem st_region {id : Nat} {ops : Array Oper} (hm : fc.mode = .run) (ht : fc.todo = .code (.region id ops false) :: k) :
    step P (lone fc cs w) = .next (lone { fc with todo := .inRegion ops (List.range ops.size) :: k } cs w) :=
  step_lone_go (by cases fc; simp only at hm ht; subst hm ht; simp [stepG, stepG.exec])
theorem st_regionDraw {id : Nat} {ops : Array Oper} (hm : fc.mode = .run) (ht : fc.todo = .code (.region id ops true) :: k) :
    ∃ t, step P (lone fc cs w) = .next (lone { fc with todo := .inRegion ops (Region.schedule (P.follows .mixedOrders) ops t) :: k } cs w.drew) :=
  ⟨w.tape w.drawn (.order fc.fn id), step_lone_go (by cases fc; simp only at hm ht; subst hm ht; simp [stepG, stepG.exec, choose, Sem.run, Question.forced, Question.cut])⟩
theorem st_regionEnd {ops : Array Oper} (hm : fc.mode = .run) (ht : fc.todo = .inRegion ops [] :: k) : step P (lone fc cs w) = .next (lone { fc with todo := k } cs w) :=
  step_lone_go (by cases fc; simp only at hm ht; subst hm ht; simp [stepG, stepG.exec])
theorem st_opSkip {ops : Array Oper} {i : Nat} {rest : List Nat} (hm : fc.mode = .run) (ht : fc.todo = .inRegion ops (i :: rest) :: k)
    (hw : ((ops[i]?).map (Region.wanted · (yielded ops fc.tmps))).getD false = false) : step P (lone fc cs w) = .next (lone (fc.finish undef) cs w) :=
  step_lone_go (by
    cases fc; simp only at hm ht hw; subst hm ht
    have hw' := hw
    simp [stepG, stepG.exec, hw'])

/-- An operation that is carried out. -/
theorem st_op {ops : Array Oper} {i : Nat} {rest : List Nat} {o : Oper} (hm : fc.mode = .run) (ht : fc.todo = .inRegion ops (i :: rest) :: k) (ho : ops[i]? = some o)
    (hw : Region.wanted o (yielded ops fc.tmps) = true) (hd : ∀ c, o.op ≠ .defer c) :
    stepG P true { frame := fc, callers := cs, status := .running, dying := none } w = stepG.apply P true fc cs none (execOp fc.eval o) w := by
  cases fc with
  | mk fn tmps todo defers mode kind roundOf =>
    simp only at hm ht hw
    subst hm ht
    have h1 : (Frame.mk fn tmps (.inRegion ops (i :: rest) :: k) defers .run kind roundOf).oper? = some o := by simp [Frame.oper?, ho]
    simp only [stepG, stepG.exec, ho, Option.map_some, hw, Option.getD_some, if_true, stepG.oper, h1]
    split
    · rename_i hc
      exact absurd hc (hd _)
    · rfl

theorem st_value {ops : Array Oper} {i : Nat} {rest : List Nat} {o : Oper} {v : Value} {w' : World} (hm : fc.mode = .run) (ht : fc.todo = .inRegion ops (i :: rest) :: k) (ho : ops[i]? = some o)
    (hw : Region.wanted o (yielded ops fc.tmps) = true) (hd : ∀ c, o.op ≠ .defer c) (hr : (execOp fc.eval o).run P w = .ok (.value v) w') :
    step P (lone fc cs w) = .next (lone (fc.finish v) cs w') :=
  step_lone_go (by rw [st_op hm ht ho hw hd]; simp [stepG.apply, hr])
theorem st_skipped {ops : Array Oper} {i : Nat} {rest : List Nat} {o : Oper} {w' : World} (hm : fc.mode = .run) (ht : fc.todo = .inRegion ops (i :: rest) :: k) (ho : ops[i]? = some o)
    (hw : Region.wanted o (yielded ops fc.tmps) = true) (hd : ∀ c, o.op ≠ .defer c) (hr : (execOp fc.eval o).run P w = .ok .skip w') :
    step P (lone fc cs w) = .next (lone (fc.finish undef) cs w') :=
  step_lone_go (by rw [st_op hm ht ho hw hd]; simp [stepG.apply, hr])
theorem st_enter {ops : Array Oper} {i : Nat} {rest : List Nat} {o : Oper} {f : FuncId} {args : Array Value} {w' : World} (hm : fc.mode = .run) (ht : fc.todo = .inRegion ops (i :: rest) :: k) (ho : ops[i]? = some o)
    (hw : Region.wanted o (yielded ops fc.tmps) = true) (hd : ∀ c, o.op ≠ .defer c) (hr : (execOp fc.eval o).run P w = .ok (.enter f args) w') :
    step P (lone fc cs w) = .next (lone (Frame.enter P f args .normal) (fc :: cs) w') :=
  step_lone_go (by rw [st_op hm ht ho hw hd]; simp [stepG.apply, hr, ht])
theorem st_round {ops : Array Oper} {i : Nat} {rest : List Nat} {o : Oper} {l : Nat} {f : FuncId} {tmps : Array Value} {assign body : Code} {w' : World} (hm : fc.mode = .run) (ht : fc.todo = .inRegion ops (i :: rest) :: k) (ho : ops[i]? = some o)
    (hw : Region.wanted o (yielded ops fc.tmps) = true) (hd : ∀ c, o.op ≠ .defer c) (hr : (execOp fc.eval o).run P w = .ok (.round l f tmps assign body) w') :
    step P (lone fc cs w) = .next (lone (Frame.round l f tmps assign body .normal) (fc :: cs) w') :=
  step_lone_go (by rw [st_op hm ht ho hw hd]; simp [stepG.apply, hr])

/-- The frame's return, behind its deferred marks. -/
theorem st_mark {r : Nat} {ds : List Deferred} (hm : fc.mode = .returning) (hd : fc.defers = { target := .collected r, args := #[] } :: ds) (hh : w.heap[r]? = some (.deferred (some []))) :
    step P (lone fc cs w) = .next (lone { fc with defers := ds } cs { w with heap := w.heap.setIfInBounds r (.deferred none) }) :=
  step_lone_go (by
    cases fc; simp only at hm hd; subst hm hd
    simp [stepG, unwind, Instr.takeDeferred, getObj, setObj, Sem.run, hh])
theorem st_return {c : Frame} {v : Value} {fn : Func} (hm : fc.mode = .returning) (hd : fc.defers = []) (hk : fc.kind = .normal) (hf : P.funcs[fc.fn]? = some fn) (hr : (Go.results fn fc.tmps).run P w = .ok v w) :
    step P (lone fc (c :: cs) w) = .next (lone (c.finish v) cs w) :=
  step_lone_go (by
    cases fc; simp only at hm hd hk hf hr; subst hm hd hk
    simp [stepG, unwind, doReturn, hf, hr])

end
end Go.Ev

/-
  EV, PART O: what a step writes is told: names grow, and whatever turns is new or written down.
-/
namespace Go.Ev
open Go Go.RowKit

/-- From one state to a later one. -/
def Log (s s' : St) : Prop := s.next ≤ s'.next ∧ ∃ l, s'.mods = l ++ s.mods ∧ ∀ N, s'.t.get N ≠ s.t.get N → N ∈ l ∨ (s.next ≤ N ∧ N < s'.next)

theorem Log.refl (s : St) : Log s s := ⟨Nat.le_refl _, [], rfl, fun _ h => absurd rfl h⟩
theorem Log.trans {a b c : St} (h : Log a b) (k : Log b c) : Log a c := by
  obtain ⟨h1, l, h2, h3⟩ := h
  obtain ⟨k1, m, k2, k3⟩ := k
  refine ⟨Nat.le_trans h1 k1, m ++ l, by rw [k2, h2, List.append_assoc], fun N hN => ?_⟩
  by_cases e : c.t.get N = b.t.get N
  · rcases h3 N (by rw [← e]; exact hN) with h4 | h4
    · exact .inl (by simp [h4])
    · exact .inr ⟨h4.1, by omega⟩
  · rcases k3 N e with h4 | h4
    · exact .inl (by simp [h4])
    · exact .inr ⟨by omega, h4.2⟩

def Logs {α : Type} (m : M α) : Prop := ∀ s a s', m s = some (a, s') → Log s s'

theorem Logs.ret {α : Type} (a : α) : Logs (Ev.ret a) := fun s b s' h => by rw [(ret_some h).2]; exact .refl _
theorem Logs.fail {α : Type} : Logs (Ev.fail : M α) := fun s b s' h => by cases h
theorem Logs.lift {α : Type} (o : Option α) : Logs (Ev.lift o) := fun s b s' h => by rw [(lift_some h).2]; exact .refl _
theorem Logs.bnd {α β : Type} {m : M α} {f : α → M β} (h : Logs m) (hf : ∀ a, Logs (f a)) : Logs (Ev.bnd m f) := fun s b s' e => by
  obtain ⟨a, s1, h1, h2⟩ := bnd_some e
  exact (h _ _ _ h1).trans (hf a _ _ _ h2)
theorem Logs.newB (b : Blk) : Logs (Ev.newB b) := fun s N s' h => by
  obtain ⟨rfl, rfl⟩ := newB_some h
  refine ⟨Nat.le_succ _, [], rfl, fun N hN => ?_⟩
  by_cases e : N = s.next
  · subst e; exact .inr ⟨Nat.le_refl _, Nat.lt_succ_self _⟩
  · simp only [Tree.get_set_ne _ _ e] at hN; exact absurd rfl hN
theorem Logs.setB (N : Nat) (b : Blk) : Logs (Ev.setB N b) := fun s u s' h => by
  obtain ⟨_, rfl⟩ := setB_some h
  refine ⟨Nat.le_refl _, [N], rfl, fun M hM => ?_⟩
  by_cases e : M = N
  · exact .inl (by simp [e])
  · simp only [Tree.get_set_ne _ _ e] at hM; exact absurd rfl hM
theorem Logs.delB (N : Nat) : Logs (Ev.delB N) := fun s u s' h => by
  obtain ⟨_, rfl⟩ := delB_some h
  refine ⟨Nat.le_refl _, [N], rfl, fun M hM => ?_⟩
  by_cases e : M = N
  · exact .inl (by simp [e])
  · simp only [Tree.get_set_ne _ _ e] at hM; exact absurd rfl hM
theorem Logs.rowOf (N : Nat) : Logs (Ev.rowOf N) := fun s r s' h => by rw [(rowOf_some h).2]; exact .refl _
theorem Logs.addr (v : Value) : Logs (Ev.addr v) := fun s r s' h => by rw [(addr_some (v' := v) h).2]; exact .refl _
theorem Logs.getLoop (l : Nat) : Logs (Ev.getLoop l) := fun s r s' h => by
  unfold Ev.getLoop at h
  split at h
  · cases h; exact .refl _
  · cases h
theorem Logs.ite {α : Type} {c : Prop} [Decidable c] {a b : M α} (ha : Logs a) (hb : Logs b) : Logs (if c then a else b) := by split <;> assumption

section
variable {T : Tab}

theorem Logs.loadVar (t : TypeId) (N o : Nat) : Logs (Ev.loadVar T t N o) := by
  unfold Ev.loadVar
  refine .bnd (.rowOf _) fun x => ?_
  repeat' first | exact .ret _ | exact .fail | split
theorem Logs.storeCells (N o : Nat) (vs : List Value) : Logs (Ev.storeCells N o vs) := by
  unfold Ev.storeCells
  split
  · exact .ret _
  · refine .bnd (.rowOf _) fun x => ?_
    repeat' first | exact .ret _ | exact .fail | exact .setB _ _ | split
theorem Logs.storeVar (t : TypeId) (N o : Nat) (v : Value) : Logs (Ev.storeVar T t N o v) := by
  unfold Ev.storeVar
  repeat' first | exact .fail | exact .storeCells _ _ _ | split
theorem Logs.newRow (e : TypeId) (vs : List Value) : Logs (Ev.newRow e vs) := by
  unfold Ev.newRow
  exact .bnd (.newB _) fun _ => .ret _
theorem Logs.buildSlice (t : TypeId) (n : Nat) (p : List (Nat × Value)) : Logs (Ev.buildSlice T t n p) := by
  unfold Ev.buildSlice
  repeat' first | exact .fail | exact .bnd (.newB _) fun _ => .ret _ | split
theorem Logs.makeSlice (t : TypeId) (l c : Value) : Logs (Ev.makeSlice T t l c) := by
  unfold Ev.makeSlice
  repeat' first | exact .fail | exact .bnd (.newB _) fun _ => .ret _ | split
theorem Logs.strToBytes (e : TypeId) (l : List UInt8) : Logs (Ev.strToBytes e l) := by
  unfold Ev.strToBytes
  repeat' first | exact .fail | exact .bnd (.newB _) fun _ => .ret _ | split
theorem Logs.bytesToStr (N o n : Nat) : Logs (Ev.bytesToStr N o n) := by
  unfold Ev.bytesToStr
  exact .bnd (.rowOf _) fun x => .bnd (.lift _) fun _ => .ret _
theorem Logs.toUnsafe (t : TypeId) (N o : Nat) : Logs (Ev.toUnsafe T t N o) := by
  unfold Ev.toUnsafe
  split
  · exact .bnd (.rowOf _) fun x => .ite (.ret _) .fail
  · exact .fail
theorem Logs.fromUnsafe (t : TypeId) (N o : Nat) : Logs (Ev.fromUnsafe T t N o) := by
  unfold Ev.fromUnsafe
  split
  · exact .bnd (.rowOf _) fun x => .ite (.ret _) .fail
  · exact .fail
theorem Logs.convert (a b : TypeId) (x : Value) : Logs (Ev.convert T a b x) := by
  unfold Ev.convert Ev.convertD
  repeat' first | exact .fail | exact .ret _ | exact .strToBytes _ _ | exact .bytesToStr _ _ _ | exact .toUnsafe _ _ _ | exact .fromUnsafe _ _ _ | split
theorem Logs.firstCells (n k : Nat) (x : Value) : Logs (Ev.firstCells n k x) := by
  unfold Ev.firstCells
  repeat' first | exact .fail | exact .ret _ | exact .bnd (.rowOf _) fun _ => .lift _ | split
theorem Logs.append (ts : List TypeId) (args : List Value) : Logs (Ev.append T ts args) := by
  unfold Ev.append
  repeat' first | exact .fail | split
  unfold Ev.appendOf
  refine .bnd (.lift _) fun _ => .bnd (.lift _) fun _ => .bnd (.lift _) fun _ => .bnd (.lift _) fun _ => .bnd (.firstCells _ _ _) fun _ => ?_
  repeat' first | exact .fail | exact .ret _ | exact .bnd (.storeCells _ _ _) fun _ => .ret _ | split
  · unfold Ev.appendEnd
    refine .bnd (.rowOf _) fun x => .bnd (.lift _) fun _ => .ite ?_ .fail
    exact .bnd (.delB _) fun _ => .bnd (.newB _) fun _ => .ret _
  · unfold Ev.appendNew
    refine .bnd (.firstCells _ _ _) fun x => .ite ?_ .fail
    exact .bnd (.newB _) fun _ => .ret _
theorem Logs.builtin (b : Builtin) (ts : List TypeId) (args : List Value) : Logs (Ev.builtin T b ts args) := by
  unfold Ev.builtin
  split
  · exact .append _ _
  · unfold Ev.len; repeat' first | exact .fail | exact .ret _ | split
  · unfold Ev.copy; repeat' first | exact .fail | exact .ret _ | exact .bnd (.storeCells _ _ _) fun _ => .ret _ | refine .bnd (.firstCells _ _ _) fun _ => ?_ | split
  · unfold Ev.clear; repeat' first | exact .fail | exact .ret _ | exact .bnd (.storeCells _ _ _) fun _ => .ret _ | split
  · exact .lift _
  · exact .lift _
  · exact .lift _
  · unfold Ev.unsafeStr
    repeat' first | exact .fail | exact .ret _ | exact .bnd (.setB _ _) fun _ => .ret _ | refine .bnd (.lift _) fun _ => ?_ | refine .bnd (.rowOf _) fun _ => ?_ | split
  · exact .fail
theorem Logs.rangeOp (t : TypeId) (x : Value) : Logs (Ev.rangeOp T t x) := by
  unfold Ev.rangeOp
  repeat' first | exact .fail | exact .bnd (.newB _) fun _ => .ret _ | split
theorem Logs.nextOp (x : Value) (b : Bool) : Logs (Ev.nextOp x b) := fun s a s' h => by
  unfold Ev.nextOp at h
  split at h
  · simp only at h
    split at h
    · split at h
      · exact Logs.bnd (.setB _ _) (fun _ => .ret _) _ _ _ h
      · cases h; exact .refl _
    · cases h
  · cases h

theorem Logs.plain (ρ : Operand → Value) (o : Op) : Logs (evPlain T ρ o) := by
  unfold evPlain
  split
  all_goals first
    | exact .ret _
    | exact .lift _
    | exact .fail
    | exact .newRow _ _
    | exact .bnd (.lift _) fun _ => .newRow _ _
    | exact .buildSlice _ _ _
    | exact .bnd (.addr _) fun _ => .loadVar _ _ _
    | exact .bnd (.bnd (.addr _) fun _ => .storeVar _ _ _ _) fun _ => .ret _
    | exact .convert _ _ _
    | exact .makeSlice _ _ _
    | exact .ite .fail (.lift _)
    | exact .rangeOp _ _
    | exact .nextOp _ _
    | exact .builtin _ _ _

theorem Logs.takeDefers : ∀ ds, Logs (Ev.takeDefers ds)
  | [] => .ret _
  | d :: ds => fun s a s' h => by
    simp only [Ev.takeDefers] at h
    split at h
    · exact Logs.bnd (.setB _ _) (fun _ => Logs.takeDefers ds) _ _ _ h
    · cases h
theorem Logs.results (tmps : List Value) : ∀ rs, Logs (Ev.results T tmps rs)
  | [] => .ret _
  | .tmp t :: rs => .bnd (Logs.results tmps rs) fun _ => .ret _
  | .cell a t :: rs => by
    unfold Ev.results
    split
    · exact .bnd (.loadVar _ _ _) fun _ => .bnd (Logs.results tmps rs) fun _ => .ret _
    · exact .fail
theorem Logs.finishCall (F : Fn) (e : Ex) (fr : Fr) : Logs (Ev.finishCall T F e fr) := by
  unfold Ev.finishCall
  split
  · exact .fail
  · exact .bnd (.takeDefers _) fun _ => .bnd (.results _ _) fun _ => .ret _
theorem Logs.trim {α : Type} {m : M α} (h : Logs m) : Logs (trimMods m) := fun s a s' e => by
  unfold trimMods at e
  split at e
  · rename_i v s1 h1
    cases e
    obtain ⟨k1, l, k2, k3⟩ := h _ _ _ h1
    refine ⟨k1, newMods s s1, rfl, fun N hN => ?_⟩
    rcases k3 N hN with h4 | h4
    · by_cases hlt : N < s.next ∨ s1.next ≤ N
      · refine .inl ?_
        simp only [newMods, k2, List.length_append, Nat.add_sub_cancel, List.take_left', List.mem_filter]
        exact ⟨h4, by simpa using hlt⟩
      · exact .inr (by simp only; omega)
    · exact .inr h4
  · cases e

end
end Go.Ev

/-
  EV, PART N: frames and calls: what the evaluator's call returns, the machine's call returns.
-/
namespace Go.Ev
open Go Go.RowKit

/-- The blocks that wait for deferred calls. -/
inductive DRel (φ : Phi) : List Nat → List Deferred → Prop
  | nil : DRel φ [] []
  | cons {d : Nat} {L : Loc} {ds : List Nat} {Ds : List Deferred} (h : φ d = some L) (hr : DRel φ ds Ds) : DRel φ (d :: ds) ({ target := .collected L.blk, args := #[] } :: Ds)

theorem DRel.mono {φ φ' : Phi} (hle : φ.Le φ') {ds : List Nat} {Ds : List Deferred} (h : DRel φ ds Ds) : DRel φ' ds Ds := by
  induction h with
  | nil => exact .nil
  | cons h _ ih => exact .cons (hle _ _ h) ih

def RRel (φ : Phi) : Option Nat → Option Nat → Prop
  | none, none => True
  | some l, some l' => ∃ L, φ l = some L ∧ L.blk = l'
  | _, _ => False

theorem RRel.mono {φ φ' : Phi} (hle : φ.Le φ') {a b : Option Nat} (h : RRel φ a b) : RRel φ' a b := by
  cases a <;> cases b <;> simp only [RRel] at h ⊢
  obtain ⟨L, h1, h2⟩ := h
  exact ⟨L, hle _ _ h1, h2⟩

/-- A frame of the evaluator and one of the machine that runs. -/
structure FRel (φ : Phi) (fr : Fr) (cx : Ctx) (fc : Frame) : Prop where
  fn : fc.fn = cx.fn
  mode : fc.mode = .run
  kind : fc.kind = .normal
  round : RRel φ cx.round fc.roundOf
  tmps : LRel φ fr.tmps fc.tmps.toList
  defers : DRel φ fr.defers fc.defers

theorem FRel.mono {φ φ' : Phi} (hle : φ.Le φ') {fr : Fr} {cx : Ctx} {fc : Frame} (h : FRel φ fr cx fc) : FRel φ' fr cx fc :=
  ⟨h.fn, h.mode, h.kind, h.round.mono hle, h.tmps.mono hle, h.defers.mono hle⟩
theorem FRel.todo {φ : Phi} {fr : Fr} {cx : Ctx} {fc : Frame} (h : FRel φ fr cx fc) (k : List Item) : FRel φ fr cx { fc with todo := k } :=
  ⟨h.fn, h.mode, h.kind, h.round, h.tmps, h.defers⟩

/-- The package-level variables' names are their own. -/
def GRel (φ : Phi) (G : Nat) : Prop := ∀ g, g < G → ∃ L, φ g = some L ∧ L.blk = g ∧ L.off = 0
theorem GRel.mono {φ φ' : Phi} (hle : φ.Le φ') {G : Nat} (h : GRel φ G) : GRel φ' G := fun g hg => let ⟨L, a, b⟩ := h g hg; ⟨L, hle _ _ a, b⟩

theorem LRel.getD {φ : Phi} {l l' : List Value} (h : LRel φ l l') (i : Nat) : VRel φ (l.getD i undef) (l'.getD i undef) := by
  by_cases hi : i < l.length
  · have hi' : i < l'.length := h.1 ▸ hi
    simp only [List.getD, List.getElem?_eq_getElem hi, List.getElem?_eq_getElem hi', Option.getD_some]
    exact h.2 i _ _ (List.getElem?_eq_getElem hi) (List.getElem?_eq_getElem hi')
  · have hi' : ¬ i < l'.length := h.1 ▸ hi
    simp only [List.getD, List.getElem?_eq_none (Nat.le_of_not_lt hi), List.getElem?_eq_none (Nat.le_of_not_lt hi'), Option.getD_none]
    exact .undef

theorem eval_rel {φ : Phi} {G : Nat} {tmps : List Value} {ds : List Nat} {fc : Frame} (ht : LRel φ tmps fc.tmps.toList) (hg : GRel φ G) {x : Operand} (hx : operandOk G x = true) : VRel φ ((Fr.mk tmps ds).eval x) (fc.eval x) := by
  cases x with
  | tmp t =>
    have := ht.getD t
    simp only [Fr.eval, Frame.eval]
    have e : fc.tmps.getD t undef = fc.tmps.toList.getD t undef := by simp [Array.getD_eq_getD_getElem?, List.getD]
    rw [e]; exact this
  | const v => exact (flatB_flat hx).vrel
  | global g =>
    obtain ⟨L, h1, h2, h3⟩ := hg g (by simpa [operandOk] using hx)
    have := VRel.ptr (φ := φ) (N := g) (o := 0) h1
    rw [h2, h3] at this
    exact this
  | func f => exact .func f _ _ _ _ rfl (fun i v v' h => by simp at h) rfl (fun i v v' h => by simp at h)

/-- How a piece of code has been left. -/
def Left (e : Ex) (K todo : List Item) : Prop :=
  match e with
  | .normal => todo = K
  | .exit id => ∃ K', todo = .code (.exit id) :: K' ∧ exitTo id K' = exitTo id K
  | .ret => ∃ K', todo = .code .ret :: K'

/-- What a step of many leaves behind. -/
structure Aft (P : Program) (B : Base) (φ : Phi) (s : St) (w : World) (φ' : Phi) (s' : St) (w' : World) : Prop where
  next : s.next ≤ s'.next
  grows : Grows B φ φ' s.next s'.next
  rel : Rel φ' B s'.t.get w'
  keeps : KeepsB B w w'

theorem Aft.refl {P : Program} {B : Base} {φ : Phi} {s : St} {w : World} (h : Rel φ B s.t.get w) : Aft P B φ s w φ s w := ⟨Nat.le_refl _, .refl _ _ _, h, .refl _ _⟩
theorem Aft.trans {P : Program} {B : Base} {φ φ' φ'' : Phi} {s s' s'' : St} {w w' w'' : World} (h : Aft P B φ s w φ' s' w') (k : Aft P B φ' s' w' φ'' s'' w'') : Aft P B φ s w φ'' s'' w'' :=
  ⟨Nat.le_trans h.next k.next, h.grows.trans k.grows h.next k.next, k.rel, h.keeps.trans k.keeps⟩
theorem Aft.fresh {P : Program} {B : Base} {φ φ' : Phi} {s s' : St} {w w' : World} (h : Aft P B φ s w φ' s' w') {n : Nat} (hf : Fresh φ s.next n) : Fresh φ' s'.next n := hf.grown h.grows h.next

def CodeSim (T : Tab) (P : Program) (ok : Code → Prop) (rec : RunCode) : Prop :=
  ∀ cx c fr s e fr' s', rec cx c fr s = some ((e, fr'), s') → ok c → ∀ (φ : Phi) (B : Base) (w : World) (fc : Frame) (cs : List Frame) (K : List Item), B.sz = P.cellsOf → B.code = ok → Rel φ B s.t.get w → Fresh φ s.next s'.next → GRel φ T.globs →
    FRel φ fr cx fc → fc.todo = .code c :: K →
    ∃ φ' w' fc', Aft P B φ s w φ' s' w' ∧ FRel φ' fr' cx fc' ∧ Steps P (lone fc cs w) (lone fc' cs w') ∧ Left e K fc'.todo

/-- The machine carries out a call and comes back. -/
def CallsTo (P : Program) (m : Sem Next) (fc : Frame) (cs : List Frame) (w : World) (v : Value) (w' : World) : Prop :=
  ∃ fr1 cs1 w1, (stepG.apply P true fc cs none m w).bare = .go { frame := fr1, callers := cs1, status := .running, dying := none } w1 ∧ Steps P (lone fr1 cs1 w1) (lone (fc.finish v) cs w')

def isCallItem : List Item → Bool
  | .call .. :: _ | .extern .. :: _ => true
  | _ => false

/-- What is asked of the functions that the evaluator knows. -/
structure Tab.Fns (T : Tab) (P : Program) (ok : Code → Prop) : Prop where
  fn : ∀ f F, T.fn f = some F → ∃ fn, P.funcs[f]? = some fn ∧ fn.ntmps = F.ntmps ∧ fn.body = some F.body ∧ fn.results.toList = F.results ∧ (fn.name == "runtime.NumGoroutine") = false ∧ ok F.body
  ext : ∀ f g, T.ext f = some g → ∃ fn e, P.funcs[f]? = some fn ∧ (fn.name == "runtime.NumGoroutine") = false ∧ fn.body = none ∧ Extern.findNext fn = none ∧ Extern.find fn = some e ∧
    ∀ (φ : Phi) args args' v (w : World), g args = some v → LRel φ args args' → ∃ v', (e ⟨args'⟩).run P w = .ok v' w ∧ VRel φ v v'

section
variable {T : Tab} {P : Program} (hT : T.Ok P) {ok : Code → Prop} (hF : T.Fns P ok)
include hT hF

theorem sim_takeDefers {B : Base} {φ : Phi} : ∀ (ds : List Nat) (s s' : St) (u : Unit) (w : World) (fc : Frame) (cs : List Frame), takeDefers ds s = some (u, s') → Rel φ B s.t.get w → DRel φ ds fc.defers → fc.mode = .returning →
    s'.next = s.next ∧ ∃ w', Rel φ B s'.t.get w' ∧ KeepsB B w w' ∧ Steps P (lone fc cs w) (lone { fc with defers := [] } cs w')
  | [], s, s', u, w, fc, cs, h, hR, hD, hm => by
    have _ := hT
    have _ := hF
    obtain ⟨_, rfl⟩ := ret_some h
    have hd : fc.defers = [] := by cases hx : fc.defers with
      | nil => rfl
      | cons a b => rw [hx] at hD; cases hD
    refine ⟨rfl, w, hR, .refl _ _, ?_⟩
    have : { fc with defers := [] } = fc := by rw [← hd]
    rw [this]; exact Steps.refl _ _
  | d :: ds, s, s', u, w, fc, cs, h, hR, hD, hm => by
    cases hx : fc.defers with
    | nil => rw [hx] at hD; cases hD
    | cons D Ds =>
      rw [hx] at hD
      cases hD with
      | @cons _ L _ _ hL hr =>
        simp only [takeDefers] at h
        split at h
        · rename_i hd
          obtain ⟨_, s1, h1, h2⟩ := bnd_some h
          obtain ⟨_, rfl⟩ := setB_some h1
          obtain ⟨L2, hL2, o', k1, k2, k3, k4⟩ := hR.blk d _ hd
          rw [hL] at hL2; cases hL2
          have ho : o' = .deferred (some []) := by
            cases o' <;> simp only [ORel] at k2 <;> try (exact k2.elim)
            rename_i x
            rcases x with _ | (_ | _) <;> first | rfl | exact k2.elim
          subst ho
          have hb : L.blk < w.heap.size := hR.inw _ _ hL
          have hR2 : Rel φ B (upd s.t.get d (some (.obj (.deferred none)))) { w with heap := w.heap.setIfInBounds L.blk (.deferred none) } :=
            hR.set hd hL trivial _ (by simp) (fun k hk => by simp [Ne.symm hk]) ⟨.deferred none, by simp [hb], trivial, k3, k4⟩
          have hK : KeepsB B w { w with heap := w.heap.setIfInBounds L.blk (.deferred none) } :=
            (Keeps.set (φ := φ) (w := w) (w' := { w with heap := w.heap.setIfInBounds L.blk (.deferred none) }) hd hL trivial rfl rfl rfl (by simp) (fun k hk => by simp [Ne.symm hk])).weak hR
          have ih := sim_takeDefers ds _ s' u { w with heap := w.heap.setIfInBounds L.blk (.deferred none) } { fc with defers := Ds } cs h2 (by simp only; rw [get_upd]; exact hR2) hr hm
          obtain ⟨i1, w', i2, i3, i4⟩ := ih
          exact ⟨i1, w', i2, hK.trans i3, Steps.head (st_mark hm hx k1) i4⟩
        · cases h

theorem sim_results {B : Base} {φ : Phi} {s : St} {w : World} (hR : Rel φ B s.t.get w) {tmps : List Value} {tmps' : Array Value} (ht : LRel φ tmps tmps'.toList) : ∀ (rs : List ResultVar) (vs : List Value) (s' : St), results T tmps rs s = some (vs, s') →
    s' = s ∧ ∃ vs', LRel φ vs vs' ∧ (rs.mapM (fun | .tmp t => pure (tmps'.getD t undef) | .cell a t => do Go.loadVar t (← asAddr (tmps'.getD a undef)) : ResultVar → Sem Value)).run P w = .ok vs' w
  | [], vs, s', h => by
    have _ := hF
    obtain ⟨rfl, rfl⟩ := ret_some h
    exact ⟨rfl, [], .nil, rfl⟩
  | .tmp t :: rs, vs, s', h => by
    unfold results at h
    obtain ⟨vs0, s1, h1, h2⟩ := bnd_some h
    obtain ⟨rfl, vs', h3, h4⟩ := sim_results hR ht rs vs0 s1 h1
    obtain ⟨rfl, rfl⟩ := ret_some h2
    have e : tmps'.getD t undef = tmps'.toList.getD t undef := by simp [Array.getD_eq_getD_getElem?, List.getD]
    refine ⟨rfl, tmps'.getD t undef :: vs', .cons (by rw [e]; exact ht.getD t) h3, ?_⟩
    rw [List.mapM_cons]
    simp only [Sem.run_bind, Sem.run_pure, Result.andThen_ok, h4]
  | .cell a t :: rs, vs, s', h => by
    unfold results at h
    have e : tmps'.getD a undef = tmps'.toList.getD a undef := by simp [Array.getD_eq_getD_getElem?, List.getD]
    have hv := ht.getD a
    rw [← e] at hv
    generalize tmps.getD a undef = x at h hv
    generalize hx' : tmps'.getD a undef = x' at hv
    cases hv <;> (try simp only at h) <;> try (cases h; done)
    rename_i N o L hL
    obtain ⟨v, s1, h1, h2⟩ := bnd_some h
    obtain ⟨rfl, L2, v', hL2, h3, h4⟩ := sim_loadVar hT hR h1
    rw [hL] at hL2; cases hL2
    obtain ⟨vs0, s2, h5, h6⟩ := bnd_some h2
    obtain ⟨rfl, vs', h7, h8⟩ := sim_results hR ht rs vs0 s2 h5
    obtain ⟨rfl, rfl⟩ := ret_some h6
    refine ⟨rfl, v' :: vs', .cons h4 h7, ?_⟩
    have ha : asAddr (tmps'.getD a undef) = pure ⟨L.blk, L.off + o, none⟩ := by rw [hx']; rfl
    rw [List.mapM_cons]
    simp only [Sem.run_bind, ha, Sem.run_pure, Result.andThen_ok, h3, h8]

omit hT hF in
theorem valOf_rel {φ : Phi} {vs vs' : List Value} (h : LRel φ vs vs') : VRel φ (valOf vs) (valOf vs') := by
  rcases vs with _ | ⟨a, _ | ⟨b, r⟩⟩
  · obtain rfl := h.nil_inv; exact .tuple _ _ rfl (fun i v v' hv => by simp at hv)
  · obtain ⟨a', r', rfl, ha, hr⟩ := h.cons_inv
    obtain rfl := hr.nil_inv
    exact ha
  · obtain ⟨a', r', rfl, ha, hr⟩ := h.cons_inv
    obtain ⟨b', r'', rfl, hb, hr2⟩ := hr.cons_inv
    exact .tuple _ _ h.1 h.2

omit hT hF in
theorem valOf_eq (vs : List Value) : valOf vs = (if h : (⟨vs⟩ : Array Value).size = 1 then (⟨vs⟩ : Array Value)[0] else .tuple ⟨vs⟩) := by
  rcases vs with _ | ⟨a, _ | ⟨b, r⟩⟩ <;> simp [valOf]

theorem sim_finishCall {B : Base} {φ : Phi} {s s' : St} {w : World} {F : Fn} {fn : Func} {e : Ex} {fr : Fr} {cx : Ctx} {fc c : Frame} {cs : List Frame} {v : Value} (hR : Rel φ B s.t.get w) (hfr : FRel φ fr cx fc) (hro : fc.roundOf = none)
    (hfn : P.funcs[fc.fn]? = some fn) (hres : fn.results.toList = F.results) (hl : Left e [] fc.todo) (h : finishCall T F e fr s = some (v, s')) :
    s'.next = s.next ∧ ∃ w' v', Rel φ B s'.t.get w' ∧ KeepsB B w w' ∧ VRel φ v v' ∧ Steps P (lone fc (c :: cs) w) (lone (c.finish v') cs w') := by
  have hret : ∃ todo, Steps P (lone fc (c :: cs) w) (lone { { fc with todo := todo } with mode := .returning } (c :: cs) w) ∧ (∃ hs : M Value, hs = (bnd (takeDefers fr.defers) fun _ => bnd (results T fr.tmps F.results) fun vs => ret (valOf vs)) ∧ hs s = some (v, s')) := by
    cases e with
    | normal => exact ⟨fc.todo, Steps.one (st_end hfr.mode hro hl), _, rfl, h⟩
    | ret =>
      obtain ⟨K', hk⟩ := hl
      exact ⟨fc.todo, Steps.one (st_ret hfr.mode hro hk), _, rfl, h⟩
    | exit id => cases h
  obtain ⟨todo, hst, hs, rfl, h⟩ := hret
  obtain ⟨_, s1, h1, h2⟩ := bnd_some h
  obtain ⟨i1, w1, i2, i3, i4⟩ := sim_takeDefers (cs := c :: cs) hT hF fr.defers s s1 _ w { { fc with todo := todo } with mode := .returning } h1 hR hfr.defers rfl
  obtain ⟨vs, s2, h3, h4⟩ := bnd_some h2
  obtain ⟨rfl, vs', h5, h6⟩ := sim_results hT hF i2 hfr.tmps F.results vs s2 h3
  obtain ⟨rfl, rfl⟩ := ret_some h4
  refine ⟨i1, w1, valOf vs', i2, i3, valOf_rel h5, hst.trans (i4.trans (Steps.one (st_return rfl rfl hfr.kind hfn ?_)))⟩
  have hm : (fn.results.mapM (fun | .tmp t => pure (fc.tmps.getD t undef) | .cell a t => do Go.loadVar t (← asAddr (fc.tmps.getD a undef)) : ResultVar → Sem Value)).run P w1 = .ok ⟨vs'⟩ w1 := by
    rw [Array.mapM_eq_mapM_toList, Sem.run_map, hres, h6]
    rfl
  have : (Go.results fn fc.tmps).run P w1 = .ok (valOf vs') w1 := by
    unfold Go.results
    rw [Sem.run_bind]
    refine (congrArg (fun r => Result.andThen r _) hm).trans ?_
    rw [valOf_eq]
    rfl
  exact this

theorem sim_enter {rec : RunCode} (hC : CodeSim T P ok rec) {B : Base} (hBz : B.sz = P.cellsOf) (hBc : B.code = ok) {φ : Phi} {s s' : St} {w : World} (hR : Rel φ B s.t.get w) (hf : Fresh φ s.next s'.next) (hG : GRel φ T.globs) {g : FuncId} {args args' : List Value} (ha : LRel φ args args') {v : Value}
    (h : enter T rec g args s = some (v, s')) (fc : Frame) (cs : List Frame) (hni : isCallItem fc.todo = false) : ∃ φ' w' v', Aft P B φ s w φ' s' w' ∧ VRel φ' v v' ∧ CallsTo P (callFunc g ⟨args'⟩) fc cs w v' w' := by
  unfold enter at h
  rcases hfn : T.fn g with _ | F
  · simp only [hfn] at h
    rcases hx : T.ext g with _ | gx
    · simp [hx, fail] at h
    · simp only [hx] at h
      obtain ⟨h1, rfl⟩ := lift_some h
      obtain ⟨fn, e, e1, e2, e3, e4, e5, e6⟩ := hF.ext g gx hx
      obtain ⟨v', h2, h3⟩ := e6 φ args args' v w h1 ha
      refine ⟨φ, w, v', .refl hR, h3, fc.finish v', cs, w, ?_, Steps.refl _ _⟩
      have hrun : (callFunc g ⟨args'⟩).run P w = .ok (.value v') w := by
        have e2' : ¬ (fn.name = "runtime.NumGoroutine") := by simpa using e2
        simp [callFunc, e1, e2', e3, e4, e5, h2]
      simp [stepG.apply, hrun]
  · simp only [hfn] at h
    unfold trimMods at h
    split at h
    · rename_i v1 s1 hrun
      cases h
      obtain ⟨p, s2, h1, h2⟩ := bnd_some hrun
      obtain ⟨e, fr⟩ := p
      obtain ⟨fn, f1, f2, f3, f4, f5, f6⟩ := hF.fn g F hfn
      have hfr0 : FRel φ ⟨args ++ List.replicate (F.ntmps - args.length) undef, []⟩ ⟨g, none⟩ (Frame.enter P g ⟨args'⟩ .normal) := by
        refine ⟨rfl, rfl, rfl, trivial, ?_, .nil⟩
        simp only [Frame.enter, f1, Option.map_some, Option.getD_some, f2, Array.toList_append, Array.toList_replicate, List.size_toArray]
        rw [← ha.1]
        exact ha.append (.replicate _ .undef)
      have htodo : (Frame.enter P g ⟨args'⟩ .normal).todo = .code F.body :: [] := by
        simp [Frame.enter, f1, f3]
      have hlog := Logs.finishCall (T := T) F e fr s2 _ s1 h2
      have hf2 : Fresh φ s.next s2.next := hf.sub (Nat.le_refl _) hlog.1
      obtain ⟨φ', w1, fe, a1, a2, a3, a4⟩ := hC ⟨g, none⟩ F.body _ s e fr s2 h1 f6 φ B w (Frame.enter P g ⟨args'⟩ .normal) (fc :: cs) [] hBz hBc hR hf2 hG hfr0 htodo
      have hro : fe.roundOf = none := by
        have := a2.round
        cases hx : fe.roundOf with
        | none => rfl
        | some l => rw [hx] at this; exact this.elim
      have hfe : P.funcs[fe.fn]? = some fn := by rw [a2.fn]; exact f1
      obtain ⟨b1, w2, v', b2, b3, b4, b5⟩ := sim_finishCall (cs := cs) (c := fc) hT hF a1.rel a2 hro hfe f4 a4 h2
      refine ⟨φ', w2, v', ⟨by simp only; have := a1.next; omega, ?_, b2, a1.keeps.trans b3⟩, b4, Frame.enter P g ⟨args'⟩ .normal, fc :: cs, w, ?_, a3.trans b5⟩
      · simp only; rw [b1]; exact a1.grows
      · have f5' : ¬ (fn.name = "runtime.NumGoroutine") := by simpa using f5
        have hrun : (callFunc g ⟨args'⟩).run P w = .ok (.enter g ⟨args'⟩) w := by
          simp [callFunc, f1, f5', f3]
        rcases hx : fc.todo with _ | ⟨it, r⟩
        · simp [stepG.apply, hrun, hx]
        · cases it <;> first
            | (rw [hx] at hni; simp [isCallItem] at hni; done)
            | simp [stepG.apply, hrun, hx]
    · cases h

end
end Go.Ev
