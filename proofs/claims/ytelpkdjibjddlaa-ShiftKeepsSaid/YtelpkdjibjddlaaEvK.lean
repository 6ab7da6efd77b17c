/-
  EV, PART K: conversions; a string's walk; a Builder's string.
-/
import Derived.Test.YtelpkdjibjddlaaEvJ
set_option linter.unusedSimpArgs false
set_option linter.unusedVariables false
namespace Go.Ev
open Go Go.RowKit

theorem bytesOf_rel {φ : Phi} : ∀ {l l' : List Value} {bs : List UInt8}, bytesOf l = some bs → LRel φ l l' → ∃ ns : List Int, l' = ns.map (Value.int .u8) ∧ bs = ns.map (fun n => UInt8.ofNat n.toNat)
  | [], l', bs, h, hl => by
    obtain rfl := hl.nil_inv
    simp [bytesOf] at h; subst h
    exact ⟨[], rfl, rfl⟩
  | a :: r, l', bs, h, hl => by
    obtain ⟨a', r', rfl, ha, hr⟩ := hl.cons_inv
    cases a <;> (try simp only [bytesOf] at h) <;> try (cases h; done)
    rename_i k n
    cases k <;> (try simp only [bytesOf] at h) <;> try (cases h; done)
    simp only [Option.map_eq_some_iff] at h
    obtain ⟨b, hb, rfl⟩ := h
    obtain ⟨ns, rfl, rfl⟩ := bytesOf_rel hb hr
    cases ha
    exact ⟨n :: ns, rfl, rfl⟩

theorem foldl_push_ints : ∀ (ns : List Int) (r : ByteArray), ns.foldl (fun r n => r.push (UInt8.ofNat n.toNat)) r = ⟨r.data ++ (ns.map (fun n => UInt8.ofNat n.toNat)).toArray⟩
  | [], r => by simp
  | n :: ns, r => by
    simp only [List.foldl_cons]
    rw [foldl_push_ints ns]
    simp [ByteArray.push]

theorem run_loadBytes {P : Program} {w : World} (b o : Nat) : ∀ (ns : List Int) (i : Nat) (acc : ByteArray), (∀ j n, ns[j]? = some n → w.cell? ⟨b, o + i + j, none⟩ = some (.int .u8 n)) →
    (Go.loadBytes ⟨b, o + i, none⟩ acc ns.length).run P w = .ok ⟨acc.data ++ (ns.map (fun n => UInt8.ofNat n.toNat)).toArray⟩ w
  | [], i, acc, _ => by simp [Go.loadBytes]
  | n :: ns, i, acc, h => by
    have h0 := h 0 n rfl
    rw [Nat.add_zero] at h0
    have hadd : Addr.add ⟨b, o + i, none⟩ 1 = ⟨b, o + (i + 1), none⟩ := by rw [add_addr]; simp [Nat.add_assoc]
    simp only [List.length_cons, Go.loadBytes, Sem.run_bind, run_load, h0, Result.andThen_ok, hadd]
    rw [run_loadBytes b o ns (i + 1) _ (fun j m hj => by have := h (j + 1) m (by simpa using hj); rwa [show o + i + (j + 1) = o + (i + 1) + j by omega] at this)]
    congr 1
    simp [ByteArray.push]

section
variable {T : Tab} {P : Program} (hT : T.Ok P)
include hT

omit hT in
theorem shape_of {w : World} {b : Nat} {c : Array Value} {e : TypeId} {fz : Nat × Nat} (h : w.heap[b]? = some (.cells c e fz)) : w.shape? b = some (e, c.size) := by
  simp [World.shape?, h]

omit hT in
theorem isByte_und {e : TypeId} (h : isByte T e = true) : T.und e = some (.int .u8) := by
  unfold isByte at h
  split at h
  · assumption
  · cases h

omit hT in
theorem run_mod0 {a k : Nat} (h : a % (k + 1) = 0) : a = a / (k + 1) * (k + 1) := by
  have := Nat.div_add_mod a (k + 1)
  rw [h, Nat.add_zero, Nat.mul_comm] at this
  exact this.symm

/-- Bytes that lie in a row, as many as asked. -/
theorem run_variablesAt {B : Base} (hBz : B.sz = P.cellsOf) {L : Loc} {c : Array Value} {e : TypeId} {fz : Nat × Nat} {w : World} {k o n : Nat} (hk : w.heap[L.blk]? = some (.cells c e fz)) (he : T.size e = some (k + 1))
    (hd : L.off % B.sz e = 0) (ho : o % (k + 1) = 0) (hn : L.off + o + n * (k + 1) ≤ c.size) : (variablesAt ⟨L.blk, L.off + o, none⟩ e n).run P w = .ok true w := by
  have hc : P.cellsOf e = k + 1 := cellsOf_size hT he
  rw [hBz, hc] at hd
  have hdep : ∃ d, P.depth = d + 1 := ⟨P.depth - 1, by unfold Program.depth; omega⟩
  obtain ⟨d, hdep⟩ := hdep
  have hmod : (L.off + o) % (k + 1) = 0 := by rw [Nat.add_mod, hd, ho]; simp
  have hdiv := run_mod0 hmod
  generalize (L.off + o) / (k + 1) = q at hdiv
  have hle : q + n ≤ c.size / (k + 1) := by
    rw [Nat.le_div_iff_mul_le (by omega), Nat.add_mul, ← hdiv]; exact hn
  have hfit : sameLayout P P.depth e e = true := by rw [hdep]; unfold sameLayout; simp
  have hrow : rowAt P (sameLayout P P.depth · e) P.depth e (c.size / (k + 1)) (L.off + o) n = true := by
    rw [hdep]
    unfold rowAt
    simp only [hc]
    rw [if_neg (by omega)]
    have hq : (L.off + o) / (k + 1) = q := by rw [hdiv, Nat.mul_div_cancel _ (by omega)]
    simp only [hmod, hq]
    rw [← hdep, hfit]
    simp [hle]
  have hl : liesAt P P.depth e (c.size / (k + 1)) (L.off + o) e n = true := by
    rw [hdep]
    unfold liesAt
    rw [hrow]
    simp
  simp [variablesAt, shape_of hk, hc, hl]

theorem bytes_some {φ : Phi} {B : Base} {s s' : St} {w : World} (hR : Rel φ B s.t.get w) {src dst e : TypeId} {N o len cap : Nat} {x' v : Value} (us : (underlying src).run P w = .ok (.slice e) w) (ud : (underlying dst).run P w = .ok .string w)
    (ue : (underlying e).run P w = .ok (.int .u8) w) (hx : VRel φ (.slice (some ⟨N, o, none⟩) len cap) x') (h : (if len = 0 then ret (.string ⟨⟨[]⟩⟩) else bytesToStr N o len : M Value) s = some (v, s')) : Came φ B s w v s' ((Go.convert src dst x').run P w) := by
  have _ := hT
  have key : ∀ (a' : Addr) (cap' : Nat), (Go.convert src dst (.slice (some a') len cap')).run P w = ((Conv.bytesToString (.slice (some a') len cap')).run P w) := fun a' cap' => by
    simp [Go.convert, us, ud, ue]
  split at h
  · rename_i h0
    subst h0
    obtain ⟨rfl, rfl⟩ := ret_some h
    cases hx <;> (refine .same hR ?_ (.string _); rw [key]; rfl)
  · rename_i hne
    unfold bytesToStr at h
    obtain ⟨⟨vs, e, hi⟩, s1, h1, h2⟩ := bnd_some h
    obtain ⟨hN, rfl⟩ := rowOf_some h1
    simp only at h2 hN
    obtain ⟨l, s2, h3, h4⟩ := bnd_some h2
    obtain ⟨hl, rfl⟩ := lift_some h3
    obtain ⟨rfl, rfl⟩ := ret_some h4
    simp only [Option.bind_eq_some_iff] at hl
    obtain ⟨r, hr, hb⟩ := hl
    obtain ⟨L, r', hL, hrel, hrun⟩ := hR.cells hN (P := P) hr
    obtain ⟨ns, rfl, rfl⟩ := bytesOf_rel hb hrel
    have hlen : ns.length = len := by have := hrel.1; simp at this; rw [← this]; exact (slice_length hr).1
    have fin : ∀ cap', (Go.convert src dst (.slice (some ⟨L.blk, L.off + o, none⟩) len cap')).run P w = .ok (.string ⟨⟨ns.map fun n => UInt8.ofNat n.toNat⟩⟩) w := fun cap' => by
      rw [key, run_bytesToString w _ len cap' ns hrun, foldl_push_ints]
      have he0 : ByteArray.empty.data = #[] := rfl
      rw [he0]
      simp
    cases hx with
    | sliceEx _ _ hL' _ => rw [hL] at hL'; cases hL'; exact .same hR (fin _) (.string _)
    | sliceEnd _ _ _ hL' _ _ _ => rw [hL] at hL'; cases hL'; exact .same hR (fin _) (.string _)
    | sliceGone => exact absurd rfl hne

theorem sim_convertD {φ : Phi} {B : Base} (hBz : B.sz = P.cellsOf) {s s' : St} {w : World} (hR : Rel φ B s.t.get w) (hf : Fresh φ s.next s'.next) {src dst : TypeId} {ds dd : TypeDesc} (hs : T.und src = some ds) (hd : T.und dst = some dd) {x x' v : Value} (hx : VRel φ x x')
    (h : convertD T ds dd x s = some (v, s')) : Came φ B s w v s' ((Go.convert src dst x').run P w) := by
  have hEND : END = 4611686018427387904 := rfl
  have us := run_und hT hs w
  have ud := run_und hT hd w
  cases dd <;> simp only [convertD] at h <;> try (cases h; done)
  · cases hx <;> simp only at h <;> try (cases h; done)
    obtain ⟨rfl, rfl⟩ := ret_some h
    refine .same hR ?_ (.int _ _)
    cases ds <;> simp [Go.convert, us, ud, Conv.intToInt]
  · have hx0 := hx
    cases hx <;> (try simp only at h) <;> try (cases h; done)
    · obtain ⟨rfl, rfl⟩ := ret_some h
      refine .same hR ?_ (.string _)
      cases ds <;> simp [Go.convert, us, ud, Conv.intToString]
    · obtain ⟨rfl, rfl⟩ := ret_some h
      refine .same hR ?_ (.string _)
      cases ds <;> simp [Go.convert, us, ud]
    all_goals
      cases ds <;> (try simp only at h) <;> try (cases h; done)
      rename_i e
      split at h <;> try (cases h; done)
      rename_i hb
      have he := isByte_und hb
      have ue := run_und hT he w
    · obtain ⟨rfl, rfl⟩ := ret_some h
      refine .same hR ?_ (.string _)
      simp [Go.convert, us, ud, ue, Conv.bytesToString]
    · exact bytes_some hT hR us ud ue hx0 h
    · exact bytes_some hT hR us ud ue hx0 h
    · simp only [if_true] at h
      rename_i a a' cap'
      obtain ⟨N, o, sp⟩ := a
      cases sp <;> simp only at h <;> try (cases h; done)
      obtain ⟨rfl, rfl⟩ := ret_some h
      refine .same hR ?_ (.string _)
      simp [Go.convert, us, ud, ue, Conv.bytesToString, Go.loadCells, Go.loadCellsFrom]
      rfl
  · -- to unsafe.Pointer
    cases ds <;> simp only at h <;> try (cases h; done)
    rename_i t
    cases hx <;> (try simp only at h) <;> try (cases h; done)
    rename_i N o L hL
    unfold toUnsafe at h
    rcases ht : T.size t with _ | _ | n
    · simp [ht, fail] at h
    · simp [ht, fail] at h
    · simp only [ht] at h
      obtain ⟨⟨vs, e, hi⟩, s1, h1, h2⟩ := bnd_some h
      obtain ⟨hN, rfl⟩ := rowOf_some h1
      simp only at h2 hN
      split at h2
      · rename_i ho
        obtain ⟨rfl, rfl⟩ := ret_some h2
        refine .same hR ?_ (.ptr hL)
        obtain ⟨L2, hL2, c, fz, k1, k2, k3, k4, k5⟩ := hR.blk N _ hN
        rw [hL] at hL2; cases hL2
        have hsh := shape_of k1
        have hlt : ¬ (c.size ≤ L.off + o) := by omega
        simp [Go.convert, us, ud, Conv.unsafePointer, Conv.seenAt, viewAt, hsh, cellsIn, run_size hT ht, hlt]
      · cases h2
  · -- and back
    rename_i t
    cases ds <;> simp only at h <;> try (cases h; done)
    cases hx <;> (try simp only at h) <;> try (cases h; done)
    rename_i N o L hL
    unfold fromUnsafe at h
    rcases ht : T.size t with _ | _ | n
    · simp [ht, fail] at h
    · simp [ht, fail] at h
    · simp only [ht] at h
      obtain ⟨⟨vs, e, hi⟩, s1, h1, h2⟩ := bnd_some h
      obtain ⟨hN, rfl⟩ := rowOf_some h1
      simp only at h2 hN
      split at h2
      · rename_i hc
        obtain ⟨rfl, c2, c3, c4⟩ := hc
        obtain ⟨rfl, rfl⟩ := ret_some h2
        refine .same hR ?_ (.ptr hL)
        obtain ⟨L2, hL2, c, fz, k1, k2, k3, k4, k5⟩ := hR.blk N _ hN
        rw [hL] at hL2; cases hL2
        have hsh := shape_of k1
        have hva := run_variablesAt (n := 1) hT hBz k1 ht (k5 c2).2.2 c3 (by omega)
        simp [Go.convert, us, ud, Conv.unsafePointer, Conv.seenAt, viewAt, hsh, run_size hT ht, hva]
      · cases h2
  · -- a string's bytes
    rename_i e
    cases ds <;> simp only at h <;> try (cases h; done)
    cases hx <;> (try simp only at h) <;> try (cases h; done)
    rename_i str
    split at h <;> try (cases h; done)
    rename_i hb
    have he := isByte_und hb
    unfold strToBytes at h
    split at h
    · rename_i hlen
      obtain ⟨N, s1, h1, h2⟩ := bnd_some h
      obtain ⟨rfl, rfl⟩ := newB_some h1
      obtain ⟨rfl, rfl⟩ := ret_some h2
      have hfr : φ s.next = none := hf s.next (Nat.le_refl _) (by simp)
      have hrun := run_bytes_of_string (P := P) w src dst e str (hT.und _ _ hs) (hT.und _ _ hd) (hT.und _ _ he)
      have hsz : str.data.toList.length = str.size := Array.length_toList
      have hge := grownCap_ge w str.size 0 e
      generalize grownCap w str.size 0 e = cap at hge hrun
      have hbs : (bytesRow str cap).size = cap := by
        have : str.data.size = str.size := rfl
        simp [bytesRow, this]; omega
      have hRn := (hR.heap (w' := w.drew) rfl).newRow hfr (byteVals str.data.toList) (bytesRow str cap) e END ((bytesRow str cap).size, (bytesRow str cap).size + 1)
        (by rw [hbs]; simp [byteVals]; omega) (fun i v hv => ⟨v, by
          have hi : i < str.data.toList.length := by have := (List.getElem?_eq_some_iff.1 hv).1; simpa [byteVals] using this
          rw [← hv]
          have hi' : i < str.data.size := by simpa using hi
          simp only [bytesRow, byteVals]
          rw [Array.getElem?_append_left (by simpa using hi')]
          simp, by
          simp only [byteVals, List.getElem?_map, Option.map_eq_some_iff] at hv
          obtain ⟨b, _, rfl⟩ := hv
          exact .int _ _⟩) (fun hh => by omega)
      refine ⟨_, _, _, hrun, by simp, .add ⟨w.heap.size, 0, (bytesRow str cap).size⟩ hfr hR.newOk, by simp only; rw [get_upd]; exact hRn, ?_, .grow⟩
      rw [hsz]
      exact VRel.sliceEnd (L := ⟨w.heap.size, 0, (bytesRow str cap).size⟩) _ 1 cap (Phi.add_same _ _ _) (by simp only [hbs]; omega) hge (by omega)
    · cases h

theorem sim_convert {φ : Phi} {B : Base} (hBz : B.sz = P.cellsOf) {s s' : St} {w : World} (hR : Rel φ B s.t.get w) (hf : Fresh φ s.next s'.next) {src dst : TypeId} {x x' v : Value} (hx : VRel φ x x')
    (h : convert T src dst x s = some (v, s')) : Came φ B s w v s' ((Go.convert src dst x').run P w) := by
  unfold convert at h
  rcases hs : T.und src with _ | ds
  · simp [hs, fail] at h
  rcases hd : T.und dst with _ | dd
  · simp [hs, hd, fail] at h
  simp only [hs, hd] at h
  exact sim_convertD hT hBz hR hf hs hd hx h

theorem sim_unsafeString {φ : Phi} {B : Base} (hBz : B.sz = P.cellsOf) {s s' : St} {w : World} (hR : Rel φ B s.t.get w) {ts : Array TypeId} {ty : TypeId} {args args' : List Value} (ha : LRel φ args args') {v : Value}
    (h : unsafeStr T ts.toList args s = some (v, s')) : Came φ B s w v s' ((Builtin.unsafeString_ ts ty ⟨args'⟩).run P w) := by
  have hEND : END = 4611686018427387904 := rfl
  generalize hts : ts.toList = tl at h
  rcases tl with _ | ⟨t, tr⟩
  · cases h
  rcases args with _ | ⟨p, _ | ⟨n, _ | ⟨y, r⟩⟩⟩
  · cases h
  · cases p <;> cases h
  · obtain ⟨p', r1, rfl, hp, ha1⟩ := ha.cons_inv
    obtain ⟨n', r2, rfl, hn, ha2⟩ := ha1.cons_inv
    obtain rfl := ha2.nil_inv
    have e0 : ts[0]? = some t := by rw [← Array.getElem?_toList, hts]; rfl
    simp only [unsafeStr] at h
    cases hn <;> (try simp only at h) <;> try (cases p <;> cases h; done)
    rename_i k n
    have hn0 : ∀ (q : Option Addr), n = 0 → (Builtin.unsafeString_ ts ty #[.pointer q, .int k n]).run P w = .ok (.string .empty) w := fun q h0 => by
      subst h0
      change Sem.run P (Go.asInt (.int k 0) >>= _) w = _
      rw [Sem.run_bind]
      cases q <;> simp [Go.asInt, asIntOf, e0]
    cases hp <;> (try simp only at h) <;> try (cases h; done)
    · split at h
      · rename_i h0
        obtain ⟨rfl, rfl⟩ := ret_some h
        exact .same hR (hn0 _ h0) (.string _)
      · cases h
    · rename_i N o L hL
      split at h
      · rename_i h0
        obtain ⟨rfl, rfl⟩ := ret_some h
        exact .same hR (hn0 _ h0) (.string _)
      · rename_i h0
        split at h
        · cases h
        · rename_i hneg
          obtain ⟨⟨vs, e, hi⟩, s1, h1, h2⟩ := bnd_some h
          obtain ⟨hN, rfl⟩ := rowOf_some h1
          simp only at h2 hN
          obtain ⟨l, s2, h3, h4⟩ := bnd_some h2
          obtain ⟨hl, rfl⟩ := lift_some h3
          split at h4
          · rename_i hc
            obtain ⟨c1, c2, c3, rfl, c5, c6⟩ := hc
            obtain ⟨_, s3, h5, h6⟩ := bnd_some h4
            obtain ⟨_, rfl⟩ := setB_some h5
            obtain ⟨rfl, rfl⟩ := ret_some h6
            simp only [Option.bind_eq_some_iff] at hl
            obtain ⟨r, hr, hb⟩ := hl
            obtain ⟨hrl, hrv⟩ := slice_length hr
            obtain ⟨L2, hL2, c, fz, k1, k2, k3, k4, k5⟩ := hR.blk N _ hN
            rw [hL] at hL2; cases hL2
            obtain ⟨hB, hfz, hdv⟩ := k5 c5
            have hpt : P.underlying t = some (.pointer e) := by
              unfold ptrElem at c1
              split at c1
              · rename_i e' hu; cases c1; exact hT.und _ _ hu
              · cases c1
            have hnlen : n.toNat ≤ vs.length := by
              have := hrl; rw [hrv] at this; simp at this; omega
            have hva := run_variablesAt (n := n.toNat) (o := 0) (k := 0) hT hBz k1 c3 hdv (by simp) (by omega)
            rw [Nat.add_zero] at hva
            -- the bytes
            have hrel : LRel φ r ((List.range n.toNat).map fun i => (c[L.off + i]?).getD undef) := by
              refine ⟨by simp [hrl], fun i v v' hv hv' => ?_⟩
              have hi' : i < n.toNat := by have := (List.getElem?_eq_some_iff.1 hv).1; omega
              rw [hrv, List.getElem?_take, if_pos hi', List.getElem?_drop] at hv
              obtain ⟨v2, q1, q2⟩ := k4 _ _ hv
              rw [List.getElem?_map, List.getElem?_range hi'] at hv'
              rw [Nat.zero_add] at q1
              simp only [Option.map_some, q1, Option.getD_some, Option.some.injEq] at hv'
              subst hv'; exact q2
            obtain ⟨ns, hns, rfl⟩ := bytesOf_rel hb hrel
            have hnl : ns.length = n.toNat := by have := congrArg List.length hns; simp at this; exact this.symm
            have hload := run_loadBytes (P := P) (w := w) L.blk L.off ns 0 .empty (fun j m hj => by
              have hj' : j < n.toNat := by have := (List.getElem?_eq_some_iff.1 hj).1; omega
              have hg : ((List.range n.toNat).map fun i => (c[L.off + i]?).getD undef)[j]? = some (.int .u8 m) := by rw [hns, List.getElem?_map, hj]; rfl
              rw [List.getElem?_map, List.getElem?_range hj'] at hg
              simp only [Option.map_some, Option.some.injEq] at hg
              rw [Array.getElem?_eq_getElem (by omega)] at hg
              simp only [Option.getD_some] at hg
              rw [Nat.add_zero]
              simp only [World.cell?, k1]
              simp [Array.getElem?_eq_getElem (show L.off + j < c.size by omega), hg])
            rw [hnl, Nat.add_zero] at hload
            have hfz2 : (w.freeze ⟨L.blk, L.off, none⟩ n.toNat).heap[L.blk]? = some (.cells c e (if fz.1 == fz.2 then (L.off, L.off + n.toNat) else (min fz.1 L.off, max fz.2 (L.off + n.toNat)))) := by
              unfold World.freeze
              rw [if_neg (by omega)]
              simp [Array.getElem?_modify, k1]
            have hoth : ∀ q, q ≠ L.blk → (w.freeze ⟨L.blk, L.off, none⟩ n.toNat).heap[q]? = w.heap[q]? := fun q hq => by
              unfold World.freeze
              rw [if_neg (by omega)]
              simp [Array.getElem?_modify, Ne.symm hq]
            have hsize : (w.freeze ⟨L.blk, L.off, none⟩ n.toNat).heap.size = w.heap.size := by
              unfold World.freeze
              rw [if_neg (by omega)]
              simp
            have ho : (w.freeze ⟨L.blk, L.off, none⟩ n.toNat).os = w.os ∧ (w.freeze ⟨L.blk, L.off, none⟩ n.toNat).tape = w.tape ∧ (w.freeze ⟨L.blk, L.off, none⟩ n.toNat).output = w.output := by
              unfold World.freeze
              rw [if_neg (by omega)]
              exact ⟨rfl, rfl, rfl⟩
            have hwr : wr (.cells vs e hi) := c5
            have hmx : Nat.max hi n.toNat < END := Nat.max_lt.2 ⟨c5, c6⟩
            have hge1 : hi ≤ Nat.max hi n.toNat := Nat.le_max_left _ _
            have hge2 : n.toNat ≤ Nat.max hi n.toNat := Nat.le_max_right _ _
            refine ⟨φ, w.freeze ⟨L.blk, L.off, none⟩ n.toNat, .string ⟨⟨ns.map fun n => UInt8.ofNat n.toNat⟩⟩, ?_, by simp, .refl _ _ _, ?_, .string _, Keeps.set hN hL hwr ho.1 ho.2.1 ho.2.2 hsize hoth⟩
            · have h63 : ¬ (n > IntKind.i64.max) := by rw [IntKind.max_i64]; omega
              have hel : (elemOf t).run P w = .ok e w := by simp [elemOf, run_underlying hpt]
              have he0 : ByteArray.empty.data = #[] := rfl
              rw [he0] at hload
              change Sem.run P (Go.asInt (.int k n) >>= _) w = _
              rw [Sem.run_bind]
              simp only [Go.asInt, asIntOf, e0, Sem.run_bind, Sem.run_pure, Result.andThen_ok, hneg, if_false, h63, h0, Nat.add_zero, hel, hva, if_true, hload, run_freeze]
              simp
            · simp only
              rw [get_upd]
              refine hR.set hN hL hwr _ hsize hoth ⟨c, _, hfz2, k2, k3, k4, fun _ => ⟨hB, ?_, hdv⟩⟩
              by_cases hq : fz.1 = fz.2
              · simp [hq]; right; omega
              · simp only [beq_iff_eq, hq, if_false]
                right
                rcases hfz with hfz | hfz
                · exact absurd hfz hq
                · have : max fz.2 (L.off + n.toNat) ≤ L.off + Nat.max hi n.toNat := by omega
                  exact this
          · cases h4
  · cases p <;> cases h

end
end Go.Ev
