/-
  EV: a workspace and patches, as they are handed in: rows of the evaluator's heap.
-/
import Derived.Test.YtelpkdjibjddlaaEvNest
import Derived.Test.YtelpkdjibjddlaaEvLawFiles
import Derived.Test.YtelpkdjibjddlaaEvPf
import Derived.Test.YtelpkdjibjddlaaEvSxZ
namespace Go.Ev.R1
open Go Go.Ev Go.Proofs Go.Proofs.Ytelpkdjibjddlaa Go.ChangeShapes Go.WideShapes Go.ChangeAt Go.RowKit Go.Deep
set_option maxRecDepth 100000
structure Hd where
  nm : ByteArray
  a : Option Addr
  len : Nat
  cap : Nat
  es : List Ed
abbrev Hd.cells (h : Hd) : List Value := [.string h.nm,.slice h.a h.len h.cap]
structure Hd.Ok (w : World) (h : Hd) : Prop where
  nm : (B h.nm).length ≤ 140737488351232
  es : ∀ e ∈ h.es,e.Ok
  len : h.es.length = h.len
  nil : h.a = none → h.len = 0 ∧ h.cap = 0
  hand : h.es ≠ [] → Handed Ed.cells 3 w h.a h.len h.cap h.es
theorem cells119 : Try.prog.cellsOf 119 = 2 := by kernel_rfl
theorem cells22 : Try.prog.cellsOf 22 = 1 := by kernel_rfl
theorem bytes119 : 0 < Try.prog.bytesOf 119 := of_decide_eq_true (by kernel_rfl)
theorem eltHd {H : Type} {enc : TypeId × Value → H} {w : World} : ∀ cs n x,DataW.trod enc Try.prog w 0 (fun _ => true) true n 119 cs = some x → (∀ m ∈ x.1.weights Try.prog 119,m ≤ reachBytes) → ∃ y : Hd,cs = y.cells ∧ y.Ok w := by
  intro cs n x h hz
  obtain ⟨xs,n',rfl,rfl,hcs,hxs,hf⟩ := DataW.trod_struct Try.underlying119 h
  rw [cells119] at hcs
  have g0 := hf 0 _ rfl
  have g1 := hf 1 _ rfl
  match xs,hxs,cs,hcs with
  | [y0,y1],_,[v0,v1],_ =>
    simp [cells9,cells22] at g0 g1
    obtain ⟨s,hs,h2,_⟩ := DataW.trod_string Try.underlying9 g0
    simp at hs
    subst hs
    have ls : s.data.toList.length ≤ reachBytes := hz _ (by
      unfold DataW.weights
      simp only [Try.underlying119]
      simp [DataW.weightsEach,h2,DataW.weights])
    have hv : ∃ a len cap,v1 = .slice a len cap := by
      rcases open_slice Try.underlying22 g1 with ⟨e,_⟩ | ⟨x,len,cap,_,_,_,_,e,_⟩
      · simp at e; exact ⟨_,_,_,e⟩
      · simp at e; exact ⟨_,_,_,e⟩
    obtain ⟨a,len,cap,rfl⟩ := hv
    obtain ⟨d1,p1⟩ := y1
    obtain ⟨l,k1,k2,k3,k4⟩ := handedIn (c := Ed.cells) Ed.Ok Try.underlying22 cells97 (by decide) (fun _ => rfl) bytes97 eltEd g1 fun m hm => hz m (by
      unfold DataW.weights
      simp only [Try.underlying119]
      simp [DataW.weightsEach,hm])
    exact ⟨⟨s,a,len,cap,l⟩,rfl,ls,k1,k2,k3,k4⟩
def inE (N : Nat) (h : Hd) : Value := match h.a with
  | none => .slice none 0 0
  | some _ => if h.es.isEmpty = true then .slice (some ⟨0,0,none⟩) 0 (END + END) else .slice (some ⟨N,0,none⟩) h.len h.cap
def cE (p : Hd × Nat) : List Value := [.string p.1.nm,inE (nameAt dep (2 + p.2)) p.1]
noncomputable def rowP (w : World) (a : Option Addr) (l : List Hd) : Option Blk := match a with
  | none => none
  | some x => match w.heap[x.block]? with
    | some (.cells _ e _) => if l.isEmpty = true then none else some (.cells (l.zipIdx.map cE).flatten e END)
    | _ => none
noncomputable def rows (w : World) (a0 : Option Addr) (l0 : List Fl) (a1 : Option Addr) (l1 : List Hd) : List (Option Blk) := argRow Fl.cells w a0 l0 :: rowP w a1 l1 :: l1.map fun h => argRow Ed.cells w h.a h.es
def locs (a0 : Option Addr) (l0 : List Fl) (a1 : Option Addr) (l1 : List Hd) : List (Option Loc) := argLoc 2 a0 l0 :: argLoc 2 a1 l1 :: l1.map fun h => if h.es.isEmpty = true then none else argLoc 3 h.a h.es
def phi (a0 : Option Addr) (l0 : List Fl) (a1 : Option Addr) (l1 : List Hd) : Phi := fun N => match pathN dep N with
  | some i => (locs a0 l0 a1 l1)[i]?.join
  | none => none
noncomputable def tree (w : World) (a0 : Option Addr) (l0 : List Fl) (a1 : Option Addr) (l1 : List Hd) : Tree := Tree.plug dep (heapOf 0 (rows w a0 l0 a1 l1) .leaf)
section
variable {w : World} {a0 : Option Addr} {l0 : List Fl} {a1 : Option Addr} {l1 : List Hd} {len0 cap0 len1 cap1 : Nat}
theorem phi_at (i : Nat) : phi a0 l0 a1 l1 (nameAt dep i) = (locs a0 l0 a1 l1)[i]?.join := by unfold phi; rw [path_name]
theorem tree_at (i : Nat) : (tree w a0 l0 a1 l1).get (nameAt dep i) = (rows w a0 l0 a1 l1)[i]?.join := by
  unfold tree
  rw [plug_at,get_heapOf,if_neg (by omega),Nat.sub_zero]
  cases h : (rows w a0 l0 a1 l1)[i]? with
  | some b => simp
  | none => simp [Tree.get]
theorem locs_in {j : Nat} {y : Hd} (hy : l1[j]? = some y) : phi a0 l0 a1 l1 (nameAt dep (2 + j)) = if y.es.isEmpty = true then none else argLoc 3 y.a y.es := by
  rw [phi_at,show 2 + j = j + 1 + 1 by omega]
  simp [locs,hy]
theorem rows_in {j : Nat} {y : Hd} (hy : l1[j]? = some y) : (tree w a0 l0 a1 l1).get (nameAt dep (2 + j)) = argRow Ed.cells w y.a y.es := by
  rw [tree_at,show 2 + j = j + 1 + 1 by omega]
  simp [rows,hy]
theorem inE_vrel (hok : ∀ y ∈ l1,y.Ok w) {j : Nat} {y : Hd} (hy : l1[j]? = some y) : VRel (phi a0 l0 a1 l1) (inE (nameAt dep (2 + j)) y) (.slice y.a y.len y.cap) := by
  have ho := hok y (List.mem_of_getElem? hy)
  have hl := locs_in (a0 := a0) (l0 := l0) (a1 := a1) hy
  unfold inE
  cases ha : y.a with
  | none =>
    obtain ⟨e1,e2⟩ := ho.nil ha
    rw [e1,e2]
    exact .sliceNil _ _ (by decide)
  | some x =>
    simp only
    by_cases he : y.es = []
    · have h0 : y.len = 0 := by rw [← ho.len,he]; rfl
      rw [if_pos (by rw [he]; rfl),h0]
      exact .sliceGone _ _
    · have hh := ho.hand he
      rw [if_neg (by simpa using he)] at hl ⊢
      have := hh.vrel hl
      rw [ha,ho.len] at this
      exact this
theorem rel_nest (h0 : Handed Fl.cells 2 w a0 len0 cap0 l0) (h1 : Handed Hd.cells 2 w a1 len1 cap1 l1) (hok : ∀ y ∈ l1,y.Ok w) (C : Code → Prop) (sz : TypeId → Nat) :
    Rel (phi a0 l0 a1 l1) ⟨fun k => k < w.heap.size,C,sz⟩ (tree w a0 l0 a1 l1).get w := by
  refine rel_of C sz (fun N b hb => ?_) fun N L hL => ?_
  · cases hp : pathN dep N with
    | none => unfold tree at hb; rw [plug_clear _ _ hp] at hb; cases hb
    | some i =>
      have hN := name_path hp
      subst hN
      rw [phi_at]
      rw [tree_at] at hb
      generalize hph : phi a0 l0 a1 l1 = ph
      have hin : ∀ {j : Nat} {y : Hd},l1[j]? = some y → VRel ph (inE (nameAt dep (2 + j)) y) (.slice y.a y.len y.cap) := fun hy => by rw [← hph]; exact inE_vrel hok hy
      clear hp
      rcases i with _ | _ | i
      · simp only [rows,List.getElem?_cons_zero,Option.join_some] at hb
        obtain ⟨L,e1,e2,e3⟩ := h0.brel (φ := ph) (B := ⟨fun k => k < w.heap.size,C,sz⟩) (fun _ => rfl) (flatFl l0) hb
        exact ⟨L,by simp [locs,e1],e2,e3⟩
      · simp only [rows,List.getElem?_cons_succ,List.getElem?_cons_zero,Option.join_some] at hb
        obtain ⟨g1,g2,g3,g4,g5⟩ := h1
        rcases g5 with ⟨rfl,rfl⟩ | ⟨blk,off,rfl,hbk,cs,e,fz,hh,hsz,hget⟩
        · cases hb
        · unfold rowP at hb
          simp only [hh] at hb
          split at hb
          · cases hb
          rename_i hl
          cases hb
          refine ⟨_,by simp [locs,argLoc]; rfl,⟨cs,fz,hh,?_,?_,?_,fun hlt => absurd hlt (Nat.lt_irrefl _)⟩,fun hw => absurd hw (Nat.lt_irrefl _)⟩
          · rw [flat_length (c := cE) (k := 2) (fun _ => rfl)]; simp
          · have := hsz (by simpa using hl); simp only; rw [g1]; exact this
          · intro q v hv
            obtain ⟨p,j,y,rfl,k5,k6⟩ := flat_get (c := cE) (k := 2) (fun _ => rfl) l1.zipIdx hv
            rw [List.getElem?_zipIdx] at k5
            obtain ⟨z,hz,hzy⟩ := Option.map_eq_some_iff.1 k5
            subst hzy
            rw [Nat.zero_add] at k6
            rcases j with _ | _ | j
            · simp [cE] at k6; subst k6
              exact ⟨_,hget p z hz 0 _ rfl,.string _⟩
            · simp [cE] at k6; subst k6
              exact ⟨_,hget p z hz 1 _ rfl,hin hz⟩
            · simp [cE] at k6
      · simp only [rows,List.getElem?_cons_succ,List.getElem?_map] at hb
        cases hy : l1[i]? with
        | none => rw [hy] at hb; simp at hb
        | some y =>
          rw [hy] at hb
          simp only [Option.map_some,Option.join_some] at hb
          have ho := hok y (List.mem_of_getElem? hy)
          have hne : y.es ≠ [] := by
            intro he
            unfold argRow at hb
            rw [he] at hb
            split at hb
            · cases hb
            · split at hb
              · simp at hb
              · cases hb
          obtain ⟨L,e1,e2,e3⟩ := (ho.hand hne).brel (φ := ph) (B := ⟨fun k => k < w.heap.size,C,sz⟩) (fun _ => rfl) (flatEd y.es) hb
          exact ⟨L,by simp [locs,hy,hne,e1],e2,e3⟩
  · unfold phi at hL
    split at hL
    · rename_i i hp
      clear hp
      rcases i with _ | _ | i
      · simp [locs] at hL; exact h0.inw hL
      · simp [locs] at hL; exact h1.inw hL
      · simp only [locs,List.getElem?_cons_succ,List.getElem?_map] at hL
        cases hy : l1[i]? with
        | none => rw [hy] at hL; simp at hL
        | some y =>
          rw [hy] at hL
          simp only [Option.map_some,Option.join_some] at hL
          split at hL
          · cases hL
          · rename_i hne
            exact ((hok y (List.mem_of_getElem? hy)).hand (by simpa using hne)).inw hL
    · cases hL
theorem phi_new (hlen : len1 < 4611686018427387904) (h1 : l1.length = len1) : ∀ N,nxt ≤ N → phi a0 l0 a1 l1 N = none := by
  intro N hN
  unfold phi
  cases hp : pathN dep N with
  | none => rfl
  | some i =>
    show (locs a0 l0 a1 l1)[i]?.join = none
    have hN' := name_path hp
    have : ¬ i < 2 ^ 63 := fun h => by have := name_lt h; omega
    rw [List.getElem?_eq_none (by simp [locs]; omega)]
    rfl
end
end Go.Ev.R1

/-
  SX: a workspace and patches, as they are handed in: what the walker is told.
-/
namespace Go.Sx
open Go Go.Ev Go.Ev.R1 Go.RowKit Go.Proofs
set_option maxRecDepth 100000
def toPt (y : Hd) : Pt := ⟨y.nm,y.es⟩
theorem arg_cap {α : Type} {c : α → List Value} {k kk : Nat} {w : World} {a : Option Addr} {len cap : Nat} {l : List α} (h : Handed c k w a len cap l) (N : Nat) : (argSlice N a = none ∨ ∃ M p,argSlice N a = some ⟨M,p,none⟩) ∧ (l.length ≤ cap ∧ cap < END ∨ cap = END + kk ∨ l = [] ∧ cap = END + END) := by
  obtain ⟨h1,h2,h3,h0,h4⟩ := h
  refine ⟨?_,.inl ⟨by omega,h3⟩⟩
  cases a with
  | none => exact .inl rfl
  | some x => exact .inr ⟨N,0,rfl⟩
section
variable {w : World} {a0 : Option Addr} {l0 : List Fl} {a1 : Option Addr} {l1 : List Hd} {len0 cap0 len1 cap1 : Nat}
theorem in_den (hok : ∀ y ∈ l1,y.Ok w) (hlen : l1.length < 4611686018427387904) {X : Env U1} (hX : X.t = tree w a0 l0 a1 l1) (hn : X.n = nxt) (hf : ∀ N,¬ X.fb N) {j : Nat} {y : Hd} (hy : l1[j]? = some y) : Den S1 X (.sl 0 y.es) (inE (nameAt dep (2 + j)) y) := by
  have ho := hok y (List.mem_of_getElem? hy)
  have hj := (List.getElem?_eq_some_iff.1 hy).1
  have empty : ∀ (a : Option Addr) (cap : Nat),(a = none ∨ ∃ M p,a = some ⟨M,p,none⟩) → (cap < END ∨ cap = END + END) → y.es = [] → Den S1 X (.sl 0 y.es) (.slice a 0 cap) := fun a cap ha hc he => by
    rw [he]
    exact DenL.sl (c := 0) (d := []) (cs := fun _ => []) (ws := []) (N := 0) (o := 0) (e := 0) (hi := 0) ⟨ha,by rcases hc with hc | hc; exact .inl ⟨Nat.zero_le _,hc⟩; exact .inr (.inr ⟨rfl,hc⟩)⟩ (fun h => absurd rfl h) (fun j x h => by simp at h) (fun j x h => by simp at h) (Nat.zero_lt_succ _) .nil
  unfold inE
  cases ha : y.a with
  | none =>
    obtain ⟨e1,e2⟩ := ho.nil ha
    exact empty none 0 (.inl rfl) (.inl (by decide)) (List.eq_nil_of_length_eq_zero (by rw [ho.len,e1]))
  | some x =>
    simp only
    by_cases he : y.es = []
    · rw [if_pos (by rw [he]; rfl)]
      exact empty _ _ (.inr ⟨0,0,rfl⟩) (.inr rfl) he
    · rw [if_neg (by simpa using he)]
      have hh := ho.hand he
      obtain ⟨vs,e,hs⟩ := hh.sl (c := Ed.cells) (fun _ => rfl) (t := X.t) (n := X.n) (N := nameAt dep (2 + j)) (by rw [hX]; exact rows_in hy) (by rw [hn]; exact name_lt (by omega))
      have := ed_den hs (arg_cap hh _) hf
      rw [ha,ho.len] at this
      exact this
theorem nest_den (h0 : Handed Fl.cells 2 w a0 len0 cap0 l0) (h1 : Handed Hd.cells 2 w a1 len1 cap1 l1) (hok : ∀ y ∈ l1,y.Ok w) {X : Env U1} (hX : X.t = tree w a0 l0 a1 l1) (hn : X.n = nxt) (hf : ∀ N,¬ X.fb N) :
    Den S1 X (.sl 1 l0) (.slice (argSlice (nameAt dep 0) a0) l0.length cap0) ∧ Den S1 X (.sl 4 (l1.map toPt)) (.slice (argSlice (nameAt dep 1) a1) l1.length cap1) := by
  constructor
  · obtain ⟨vs,e,hs⟩ := h0.sl (c := Fl.cells) (fun _ => rfl) (t := X.t) (n := X.n) (N := nameAt dep 0) (by rw [hX,tree_at]; simp [rows]) (by rw [hn]; exact name_lt (by omega))
    exact fl_den hs (arg_cap h0 _) hf
  · have hcap := arg_cap (kk := S1.k 4) h1 (nameAt dep 1)
    obtain ⟨g1,g2,g3,g4,g5⟩ := h1
    have hlen : l1.length = (l1.map toPt).length := by simp
    have hrow : l1 ≠ [] → argSlice (nameAt dep 1) a1 = some ⟨nameAt dep 1,0,none⟩ ∧ ∃ e,X.t.get (nameAt dep 1) = some (.cells (l1.zipIdx.map cE).flatten e END) := fun hne => by
      rcases g5 with ⟨rfl,rfl⟩ | ⟨blk,off,rfl,hbk,cs,e,fz,hh,hsz,hget⟩
      · exact absurd rfl hne
      · refine ⟨rfl,e,?_⟩
        rw [hX,tree_at]
        simp only [rows,List.getElem?_cons_succ,List.getElem?_cons_zero,Option.join_some]
        unfold rowP
        simp only [hh]
        rw [if_neg (by simpa using hne)]
    have hmap : ∀ {j : Nat} {x : Pt},(l1.map toPt)[j]? = some x → ∃ y,l1[j]? = some y ∧ toPt y = x := fun {j x} hj => by
      rw [List.getElem?_map] at hj
      exact Option.map_eq_some_iff.1 hj
    by_cases hne : l1 = []
    · subst hne
      exact DenL.sl (c := 4) (d := []) (cs := fun _ => []) (ws := []) (N := 0) (o := 0) (e := 0) (hi := 0) ⟨hcap.1,by rcases hcap.2 with h | h | h; exact .inl h; exact .inr (.inl h); exact .inr (.inr ⟨rfl,h.2⟩)⟩ (fun h => absurd rfl h) (fun j x h => by simp at h) (fun j x h => by simp at h) (Nat.zero_lt_succ _) .nil
    · obtain ⟨r1,e,r2⟩ := hrow hne
      have hz : ∀ {j : Nat} {y : Hd},l1[j]? = some y → l1.zipIdx[j]? = some (y,j) := fun {j y} hy => by rw [List.getElem?_zipIdx,hy]; simp
      rw [hlen]
      refine DenL.sl (c := 4) (d := l1.map toPt) (N := nameAt dep 1) (o := 0) (ws := (l1.zipIdx.map cE).flatten) (e := e) (hi := END) (cs := fun j => match l1[j]? with | some y => cE (y,j) | none => []) ⟨hcap.1,?_⟩ (fun _ => ⟨r1,r2,by rw [hn]; exact name_lt (by omega),hf _⟩) (fun j x hj => ?_) (fun j x hj => ?_) (by rw [← hlen,g1]; exact Nat.lt_of_le_of_lt g4 g3) .nil
      · rcases hcap.2 with h | h | h
        · exact .inl ⟨by rw [← hlen]; exact h.1,h.2⟩
        · exact .inr (.inl h)
        · exact absurd h.1 hne
      · obtain ⟨y,hy,rfl⟩ := hmap hj
        simp only [hy]
        rw [Nat.zero_add]
        exact slice_flat (c := cE) (k := 2) (fun _ => rfl) l1.zipIdx j (y,j) (hz hy)
      · obtain ⟨y,hy,rfl⟩ := hmap hj
        simp only [hy]
        exact DenL.str (DenL.cons (in_den hok (by rw [g1]; exact g2) hX hn hf hy) .nil)
end
end Go.Sx
