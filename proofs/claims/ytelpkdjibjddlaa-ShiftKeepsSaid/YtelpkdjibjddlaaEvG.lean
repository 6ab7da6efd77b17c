/-
  EV, PART G: slices: cut, made, measured, converted.
-/
import Derived.Test.YtelpkdjibjddlaaEvF
import Derived.Laws.MakeOwn
set_option linter.unusedSimpArgs false
set_option linter.unusedVariables false
namespace Go.Ev
open Go Go.RowKit

/-- Of two values that may be missing. -/
inductive QRel (φ : Phi) : Option Value → Option Value → Prop
  | none : QRel φ none none
  | some {v v' : Value} (h : VRel φ v v') : QRel φ (some v) (some v')

theorem run_sliceBound {φ : Phi} {v v' : Value} {n y : Nat} (hv : VRel φ v v') (h : bound (some v) 0 = some n) (hn : n ≤ y) (code : BoundsCode) (P : Program) (w : World) :
    (Instr.sliceBound v' y code).run P w = .ok n w := by
  cases hv <;> simp only [bound] at h <;> try (cases h; done)
  rename_i k i
  split at h
  · rename_i h0
    cases h
    have : 0 ≤ i ∧ i ≤ (y : Int) := ⟨h0, by omega⟩
    simp [Instr.sliceBound, asIntOf, this]
  · cases h

theorem bound_some {v : Option Value} {d n : Nat} {v1 : Value} (e : v = some v1) (h : bound v d = some n) : bound (some v1) 0 = some n := by
  subst e; cases v1 <;> exact h

theorem run_sliceBounds {φ : Phi} {low low' high high' : Option Value} {l h len cap : Nat} (hl : QRel φ low low') (hh : QRel φ high high') (bl : bound low 0 = some l) (bh : bound high len = some h)
    (h1 : l ≤ h) (h2 : h ≤ cap) (isSlice : Bool) (P : Program) (w : World) : (Instr.sliceBounds isSlice len cap low' high' none).run P w = .ok (l, h, cap) w := by
  unfold Instr.sliceBounds
  simp only [Sem.run_bind, Sem.run_pure, Result.andThen_ok]
  cases hh with
  | none =>
    simp [bound] at bh
    subst bh
    simp only [Sem.run_pure, Result.andThen_ok]
    cases hl with
    | none => simp [bound] at bl; subst bl; simp
    | some hv =>
      have e1 := fun code => run_sliceBound hv (bound_some rfl bl) h1 code P w
      simp [e1]
  | some hv2 =>
    have e2 := fun code => run_sliceBound hv2 (bound_some rfl bh) h2 code P w
    simp only [e2, Result.andThen_ok]
    cases hl with
    | none => simp [bound] at bl; subst bl; simp [e2]
    | some hv =>
      have e1 := fun code => run_sliceBound hv (bound_some rfl bl) h1 code P w
      simp [e1, e2]

theorem run_sliceBounds3 {φ : Phi} {low low' high high' : Option Value} {mx mx' : Value} {l h m len cap : Nat} (hl : QRel φ low low') (hh : QRel φ high high') (hm : VRel φ mx mx') (hs : high'.isSome)
    (bl : bound low 0 = some l) (bh : bound high len = some h) (bm : bound (some mx) 0 = some m)
    (h1 : l ≤ h) (h2 : h ≤ m) (h3 : m ≤ cap) (isSlice : Bool) (P : Program) (w : World) : (Instr.sliceBounds isSlice len cap low' high' (some mx')).run P w = .ok (l, h, m) w := by
  unfold Instr.sliceBounds
  simp only [Sem.run_bind, run_sliceBound hm bm h3 _ P w, Result.andThen_ok]
  cases hh with
  | none => cases hs
  | some hv2 =>
    have e2 := fun code => run_sliceBound hv2 (bound_some rfl bh) h2 code P w
    simp only [e2, Result.andThen_ok]
    cases hl with
    | none => simp [bound] at bl; subst bl; simp [e2]
    | some hv =>
      have e1 := fun code => run_sliceBound hv (bound_some rfl bl) h1 code P w
      simp [e1, e2]

section
variable {T : Tab} {P : Program} (hT : T.Ok P)
include hT

theorem sim_sliceOp {φ : Phi} {t : TypeId} {x x' v : Value} {low low' high high' max max' : Option Value} (h : sliceOp T t x low high max = some v) (hx : VRel φ x x') (hlo : QRel φ low low') (hhi : QRel φ high high')
    (hmx : QRel φ max max') (hms : max.isSome = true → high.isSome = true) (w : World) : ∃ v', (Instr.sliceAt t x' low' high' max').run P w = .ok v' w ∧ VRel φ v v' := by
  unfold sliceOp at h
  cases hd : T.und t with
  | none => simp [hd] at h
  | some d =>
    split at h
    · rename_i s hk
      rw [hd] at hk; cases hk
      cases hx
      simp only at h
      split at h
      · rename_i l hh bl bh
        split at h
        · rename_i hc
          cases h
          obtain ⟨c1, c2, c3⟩ := hc
          cases hmx with
          | some _ => simp at c1
          | none =>
            have hsz : s.data.toList.length = s.size := Array.length_toList
            rw [hsz] at bh c3
            have hb := run_sliceBounds hlo hhi bl bh c2 c3 false P w
            refine ⟨.string (s.extract l hh), ?_, ?_⟩
            · simp [Instr.sliceAt, run_und hT hd, Instr.slice, hb]
            · have : (⟨⟨(s.data.toList.drop l).take (hh - l)⟩⟩ : ByteArray) = s.extract l hh := by
                have he := Lib.extract_data s l hh
                rw [← he]
              rw [this]; exact .string _
        · cases h
      · cases h
    · rename_i elem a len cap hk
      rw [hd] at hk; cases hk
      split at h
      · rename_i n l hh hn bl bh
        split at h
        · cases hmx
          split at h
          · rename_i hcap
            split at h
            · rename_i hc
              obtain ⟨c1, c2, c3⟩ := hc
              cases hx with
              | sliceNil _ _ hlt => omega
              | sliceEx _ _ _ hlt => omega
              | sliceGone a' cap' =>
                have : hh = 0 := by omega
                have : l = 0 := by omega
                subst_vars
                rw [if_neg (by omega), if_pos rfl] at h
                cases h
                have hb := run_sliceBounds (cap := cap') hlo hhi bl bh (by omega) (by omega) true P w
                refine ⟨.slice (some a') 0 cap', ?_, ?_⟩
                · simp only [Instr.sliceAt, Sem.run_bind, run_und hT hd, Result.andThen_ok, Instr.slice, hb, run_size hT hn, Sem.run_pure]
                  by_cases e : cap' = 0
                  · simp [e]
                  · simp [e, Addr.add]
                · exact .sliceGone _ _
              | @sliceEnd N o L _ es cap' hL hcp hll hes =>
                have : es = n := by omega
                subst this
                have hb := run_sliceBounds (cap := cap') hlo hhi bl bh c2 (by omega) true P w
                split at h
                · rename_i hlt
                  cases h
                  refine ⟨.slice (some ⟨L.blk, L.off + o + l * es, none⟩) (hh - l) (cap' - l), ?_, ?_⟩
                  · simp only [Instr.sliceAt, Sem.run_bind, run_und hT hd, Result.andThen_ok, Instr.slice, hb, run_size hT hn, Sem.run_pure]
                    rw [if_neg (by omega)]
                    simp [add_addr]
                  · simp only [Option.map_some]
                    rw [Nat.add_assoc L.off]
                    refine .sliceEnd _ _ _ hL ?_ (by omega) hes
                    have : cap' * es = l * es + (cap' - l) * es := by rw [← Nat.add_mul]; congr 1; omega
                    omega
                · rename_i hnlt
                  split at h
                  · rename_i hl0
                    cases h
                    subst hl0
                    have : hh = 0 := by omega
                    subst this
                    refine ⟨.slice (some ⟨L.blk, L.off + o, none⟩) 0 cap', ?_, .sliceEnd _ _ _ hL hcp (Nat.zero_le _) hes⟩
                    simp only [Instr.sliceAt, Sem.run_bind, run_und hT hd, Result.andThen_ok, Instr.slice, hb, run_size hT hn, Sem.run_pure]
                    by_cases e : cap' = 0
                    · simp [e]
                    · simp [e, Addr.add]
                  · cases h
                    have : hh = l := by omega
                    subst this
                    simp only [Instr.sliceAt, Sem.run_bind, run_und hT hd, Result.andThen_ok, Instr.slice, hb, run_size hT hn, Sem.run_pure, Nat.sub_self]
                    by_cases e : cap' = hh
                    · exact ⟨.slice (some ⟨L.blk, L.off + o, none⟩) 0 (cap' - hh), by rw [if_pos e], .sliceGone _ _⟩
                    · exact ⟨.slice (some (Addr.add ⟨L.blk, L.off + o, none⟩ (hh * es))) 0 (cap' - hh), by rw [if_neg e]; rfl, .sliceGone _ _⟩
            · cases h
          · rename_i hcap
            split at h
            · rename_i hc
              cases h
              cases hx with
              | sliceNil _ _ hlt =>
                have hb := run_sliceBounds hlo hhi bl bh hc.1 hc.2 true P w
                refine ⟨.slice none (hh - l) (cap - l), ?_, ?_⟩
                · simp [Instr.sliceAt, run_und hT hd, Instr.slice, hb, run_size hT hn]
                · simp; exact .sliceNil _ _ (by omega)
              | @sliceEx N o L _ _ hL hlt =>
                have hb := run_sliceBounds hlo hhi bl bh hc.1 hc.2 true P w
                simp only [Instr.sliceAt, Sem.run_bind, run_und hT hd, Result.andThen_ok, Instr.slice, hb, run_size hT hn, Sem.run_pure]
                by_cases e : cap = l
                · exact ⟨.slice (some ⟨L.blk, L.off + o, none⟩) (hh - l) (cap - l), by rw [if_pos e], by rw [if_pos e]; exact .sliceEx _ _ hL (by omega)⟩
                · refine ⟨.slice (some ⟨L.blk, L.off + (o + l * n), none⟩) (hh - l) (cap - l), ?_, ?_⟩
                  · simp [if_neg e, add_addr, Nat.add_assoc]
                  · rw [if_neg e]; exact .sliceEx _ _ hL (by omega)
              | sliceEnd => omega
              | sliceGone => omega
            · cases h
        · rename_i mv
          cases hmx with
          | some hmv =>
            split at h
            · rename_i m bm
              by_cases hc : l ≤ hh ∧ hh ≤ m ∧ (if END ≤ cap then m ≤ len ∧ cap = END + n ∧ n < END ∧ m < END else m ≤ cap)
              · rw [if_pos hc] at h
                obtain ⟨c1, c2, c3⟩ := hc
                cases h
                have hhs : high'.isSome = true := by
                  have := hms rfl
                  cases hhi <;> simp_all
                cases hx with
                | sliceNil _ _ hlt =>
                  rw [if_neg (by omega)] at c3
                  have hb := run_sliceBounds3 (cap := cap) hlo hhi hmv hhs bl bh bm c1 c2 c3 true P w
                  refine ⟨.slice none (hh - l) (m - l), ?_, ?_⟩
                  · simp [Instr.sliceAt, run_und hT hd, Instr.slice, hb, run_size hT hn]
                  · simp; exact .sliceNil _ _ (by omega)
                | @sliceEx N o L _ _ hL hlt =>
                  rw [if_neg (by omega)] at c3
                  have hb := run_sliceBounds3 (cap := cap) hlo hhi hmv hhs bl bh bm c1 c2 c3 true P w
                  simp only [Instr.sliceAt, Sem.run_bind, run_und hT hd, Result.andThen_ok, Instr.slice, hb, run_size hT hn, Sem.run_pure]
                  by_cases e : m = l
                  · exact ⟨.slice (some ⟨L.blk, L.off + o, none⟩) (hh - l) (m - l), by rw [if_pos e], by rw [if_pos e]; exact .sliceEx _ _ hL (by omega)⟩
                  · refine ⟨.slice (some ⟨L.blk, L.off + (o + l * n), none⟩) (hh - l) (m - l), ?_, ?_⟩
                    · simp [if_neg e, add_addr, Nat.add_assoc]
                    · rw [if_neg e]; exact .sliceEx _ _ hL (by omega)
                | @sliceEnd N o L _ es cap' hL hcp hll hes =>
                  rw [if_pos (by omega)] at c3
                  have hb := run_sliceBounds3 (cap := cap') hlo hhi hmv hhs bl bh bm c1 c2 (by omega) true P w
                  simp only [Instr.sliceAt, Sem.run_bind, run_und hT hd, Result.andThen_ok, Instr.slice, hb, run_size hT hn, Sem.run_pure]
                  by_cases e : m = l
                  · exact ⟨.slice (some ⟨L.blk, L.off + o, none⟩) (hh - l) (m - l), by rw [if_pos e], by rw [if_pos e]; exact .sliceEx _ _ hL (by omega)⟩
                  · refine ⟨.slice (some ⟨L.blk, L.off + (o + l * n), none⟩) (hh - l) (m - l), ?_, ?_⟩
                    · simp [if_neg e, add_addr, Nat.add_assoc]
                    · rw [if_neg e]; exact .sliceEx _ _ hL (by omega)
                | sliceGone a' cap' =>
                  rw [if_pos (by omega)] at c3
                  omega
              · rw [if_neg hc] at h; cases h
            · cases h
      · cases h
    · rename_i k elem N o hk
      rw [hd] at hk; cases hk
      split at h
      · rename_i n l hh hn bl bh
        cases hmx
        split at h
        · rename_i hc
          cases h
          cases hx with
          | @ptr _ _ L hL =>
            have hb := run_sliceBounds hlo hhi bl bh hc.1 hc.2.1 false P w
            simp only [Instr.sliceAt, Sem.run_bind, run_und hT hd, Result.andThen_ok, Instr.sureAddr, Sem.run_pure, hb, run_size hT hn]
            by_cases e : k = l
            · exact ⟨.slice (some ⟨L.blk, L.off + o, none⟩) (hh - l) (k - l), by rw [if_pos e], by rw [if_pos e]; exact .sliceEx _ _ hL (by omega)⟩
            · refine ⟨.slice (some ⟨L.blk, L.off + (o + l * n), none⟩) (hh - l) (k - l), ?_, ?_⟩
              · simp [if_neg e, add_addr, Nat.add_assoc]
              · rw [if_neg e]; exact .sliceEx _ _ hL (by omega)
        · cases h
      · cases h
    · cases h

end
end Go.Ev
