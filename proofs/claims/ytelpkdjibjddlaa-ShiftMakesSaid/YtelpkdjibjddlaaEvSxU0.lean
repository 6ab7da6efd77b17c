/-
  SX: the program's data.
-/
import Derived.Test.YtelpkdjibjddlaaEvSxX2
import Derived.Test.YtelpkdjibjddlaaEvPf
set_option linter.unusedSimpArgs false
set_option linter.unusedVariables false
namespace Go.Sx
open Go Go.Ev Go.RowKit
set_option maxRecDepth 100000
abbrev U1 : Nat → Type
  | 0 => Ed
  | 1 => Fl
  | 2 => Run
  | 3 => Sp
  | 4 => Pt
  | 5 => Int
  | 6 => List Ed
  | 7 => List UInt8
  | 8 => Int
  | _ => Unit
def cells1 : (c : Nat) → U1 c → List (SV U1)
  | 0,e => [.int .i64 e.lo,.int .i64 e.hi,.str (B e.tx)]
  | 1,f => [.str (B f.nm),.str (B f.tx)]
  | 2,r => [.int .i64 r.fr,.int .i64 r.to,.int .i64 r.by']
  | 3,s => [.int .i64 s.a,.int .i64 s.b]
  | 4,p => [.str (B p.nm),.sl 0 p.es]
  | 5,n => [.int .i64 n]
  | 6,l => [.sl 0 l]
  | 7,s => [.str s]
  | 8,n => [.int .u8 n]
  | _,_ => []
def k1 : Nat → Nat
  | 0 => 3 | 1 => 2 | 2 => 3 | 3 => 2 | 4 => 2 | 5 => 1 | 6 => 1 | 7 => 1 | 8 => 1 | _ => 0
def of1 : (c : Nat) → List (SV U1) → Option (U1 c)
  | 0,[.int .i64 a,.int .i64 b,.str x] => some (⟨a,b,⟨⟨x⟩⟩⟩ : Ed)
  | 1,[.str a,.str b] => some (⟨⟨⟨a⟩⟩,⟨⟨b⟩⟩⟩ : Fl)
  | 2,[.int .i64 a,.int .i64 b,.int .i64 c] => some (⟨a,b,c⟩ : Run)
  | 3,[.int .i64 a,.int .i64 b] => some (⟨a,b⟩ : Sp)
  | 4,[.str a,.sl 0 l] => some (⟨⟨⟨a⟩⟩,l⟩ : Pt)
  | 4,[.str a,.nilS] => some (⟨⟨⟨a⟩⟩,[]⟩ : Pt)
  | 5,[.int .i64 a] => some (a : Int)
  | 6,[.sl 0 l] => some (l : List Ed)
  | 6,[.nilS] => some ([] : List Ed)
  | 7,[.str a] => some (a : List UInt8)
  | 8,[.int .u8 a] => some (a : Int)
  | _,_ => none
theorem cells1_ok : ∀ c x,(cells1 c x).length = k1 c ∧ ∀ v ∈ cells1 c x,one v = true ∧ idf v = true := by
  intro c x
  match c,x with
  | 0,e => exact ⟨rfl,fun v hv => by simp [cells1] at hv; rcases hv with rfl | rfl | rfl <;> exact ⟨rfl,rfl⟩⟩
  | 1,e => exact ⟨rfl,fun v hv => by simp [cells1] at hv; rcases hv with rfl | rfl <;> exact ⟨rfl,rfl⟩⟩
  | 2,e => exact ⟨rfl,fun v hv => by simp [cells1] at hv; rcases hv with rfl | rfl | rfl <;> exact ⟨rfl,rfl⟩⟩
  | 3,e => exact ⟨rfl,fun v hv => by simp [cells1] at hv; rcases hv with rfl | rfl <;> exact ⟨rfl,rfl⟩⟩
  | 4,e => exact ⟨rfl,fun v hv => by simp [cells1] at hv; rcases hv with rfl | rfl <;> exact ⟨rfl,rfl⟩⟩
  | 5,e => exact ⟨rfl,fun v hv => by simp [cells1] at hv; subst hv; exact ⟨rfl,rfl⟩⟩
  | 6,e => exact ⟨rfl,fun v hv => by simp [cells1] at hv; subst hv; exact ⟨rfl,rfl⟩⟩
  | 7,e => exact ⟨rfl,fun v hv => by simp [cells1] at hv; subst hv; exact ⟨rfl,rfl⟩⟩
  | 8,e => exact ⟨rfl,fun v hv => by simp [cells1] at hv; subst hv; exact ⟨rfl,rfl⟩⟩
  | n + 9,e => exact ⟨rfl,fun v hv => by simp [cells1] at hv⟩
theorem nilS_den {S : Sys U1} {X : Env U1} {l : List (SV U1)} {vs : List Value} {c : Nat} (h : DenL S X (.nilS :: l) vs) : DenL S X (.sl c [] :: l) vs := by
  cases h with
  | nilS h => exact DenL.sl (cs := fun _ => []) (ws := []) (N := 0) (o := 0) (e := 0) (hi := 0) ⟨.inl rfl,.inl ⟨Nat.le_refl _,by decide⟩⟩ (fun h => absurd rfl h) (fun j x h => by simp at h) (fun j x h => by simp at h) (Nat.zero_lt_succ _) h
theorem of1_ok {S : Sys U1} : ∀ c l x,of1 c l = some x → ∀ X vs,DenL S X l vs → DenL S X (cells1 c x) vs := by
  intro c l x h X vs d
  unfold of1 at h
  split at h <;> first | (cases h; done) | (cases h; exact d) | skip
  · cases h
    obtain ⟨w,ws,rfl,h1,h2⟩ := d.uncons
    exact DenL.cons h1 (nilS_den h2)
  · cases h
    exact nilS_den d
end Go.Sx

