/- The plain mathematics of the port's state machine: no program here. -/
import Derived.Laws.Entries
namespace Go.Proofs.Ythegjpkbgdkplaa
set_option linter.unusedVariables false
set_option linter.unusedSimpArgs false

/-- the moves: event, from, to -/
def mvs : List (Int × Int × Int) :=
  [(1, 100, 1), (5, 100, 3), (3, 101, 2), (2, 1, 4), (4, 2, 1), (6, 3, 1), (7, 4, 6), (7, 8, 6), (7, 9, 6), (7, 7, 6), (8, 5, 6), (9, 8, 9), (10, 9, 8),
    (24, 102, 7), (25, 102, 7), (26, 102, 8), (21, 102, 5), (22, 102, 5), (23, 102, 5)]
def appl (f s : Int) : Bool := if f = 100 then true else if f = 101 then decide (s ≠ 3) else if f = 102 then decide (4 ≤ s) else decide (f = s)
def knownI (s : Int) : Bool := decide (1 ≤ s ∧ s ≤ 9)
def happI (e : Int) : Bool := decide ((1 ≤ e ∧ e ≤ 10) ∨ (20 ≤ e ∧ e ≤ 26))
def usesI (s : Int) : Bool := decide (s = 8 ∨ s = 9)
def staysI (s e t : Int) (b : Bool) : Bool := decide ((t = 5 ∧ s = 6) ∨ (e = 26 ∧ b = true ∧ usesI s = true))
def goI (s e : Int) (b : Bool) : List (Int × Int × Int) → Int
  | [] => s
  | m :: r => if m.1 = e ∧ appl m.2.1 s = true then (if staysI s e m.2.2 b = true then s else m.2.2) else goI s e b r
def nextI (s e : Int) (b : Bool) : Int := if knownI s = true ∧ happI e = true then goI s e b mvs else 0

theorem mvs_len : mvs.length = 19 := rfl
theorem goI_drop (s e : Int) (b : Bool) (k : Nat) (h : k < 19) (m : Int × Int × Int) (hm : mvs.getD k (0, 0, 0) = m) :
    goI s e b (mvs.drop k) = if m.1 = e ∧ appl m.2.1 s = true then (if staysI s e m.2.2 b = true then s else m.2.2) else goI s e b (mvs.drop (k + 1)) := by
  have hd : mvs.drop k = m :: mvs.drop (k + 1) := by
    rw [List.drop_eq_getElem_cons (by rw [mvs_len]; exact h), ← hm, List.getD_eq_getElem?_getD, List.getElem?_eq_getElem (by rw [mvs_len]; exact h)]
    rfl
  rw [hd]
  rfl

/-! ### as the reference has it -/
def decI (s c : Int) (b : Bool) : Int :=
  if c = 1 ∨ c = 2 ∨ c = 3 then (if s = 6 then s else 5) else if c = 4 ∨ c = 5 then 7 else if c = 6 then (if b = true ∧ usesI s = true then s else 8) else s
def rnextI (s e : Int) (b : Bool) : Int :=
  if knownI s = true ∧ happI e = true then
    if e = 1 then 1 else if e = 5 then 3 else if e = 3 then (if s = 3 then s else 2) else if e = 2 then (if s = 1 then 4 else s) else if e = 4 then (if s = 2 then 1 else s)
    else if e = 6 then (if s = 3 then 1 else s) else if e = 7 then (if s = 4 ∨ s = 8 ∨ s = 9 ∨ s = 7 then 6 else s) else if e = 8 then (if s = 5 then 6 else s)
    else if e = 9 then (if s = 8 then 9 else s) else if e = 10 then (if s = 9 then 8 else s) else if 4 ≤ s then decI s (e - 20) b else s
  else 0

theorem cases9 (s : Int) (h : knownI s = true) : s = 1 ∨ s = 2 ∨ s = 3 ∨ s = 4 ∨ s = 5 ∨ s = 6 ∨ s = 7 ∨ s = 8 ∨ s = 9 := by
  simp [knownI] at h; omega
theorem cases17 (e : Int) (h : happI e = true) : e = 1 ∨ e = 2 ∨ e = 3 ∨ e = 4 ∨ e = 5 ∨ e = 6 ∨ e = 7 ∨ e = 8 ∨ e = 9 ∨ e = 10 ∨ e = 20 ∨ e = 21 ∨ e = 22 ∨ e = 23 ∨ e = 24 ∨ e = 25 ∨ e = 26 := by
  simp [happI] at h; omega
/-- what holds at all states, events and answers holds -/
theorem by_table (Q : Int → Int → Bool → Prop) (h : ∀ s ∈ [(1 : Int), 2, 3, 4, 5, 6, 7, 8, 9], ∀ e ∈ [(1 : Int), 2, 3, 4, 5, 6, 7, 8, 9, 10, 20, 21, 22, 23, 24, 25, 26], ∀ b ∈ [false, true], Q s e b)
    (s e : Int) (b : Bool) (hs : knownI s = true) (he : happI e = true) : Q s e b := by
  refine h s ?_ e ?_ b ?_
  · rcases cases9 s hs with rfl | rfl | rfl | rfl | rfl | rfl | rfl | rfl | rfl <;> simp
  · rcases cases17 e he with rfl | rfl | rfl | rfl | rfl | rfl | rfl | rfl | rfl | rfl | rfl | rfl | rfl | rfl | rfl | rfl | rfl <;> simp
  · cases b <;> simp
theorem rnext_eq (s e : Int) (b : Bool) : rnextI s e b = nextI s e b := by
  by_cases h : knownI s = true ∧ happI e = true
  · exact by_table (fun s e b => rnextI s e b = nextI s e b) (by decide +kernel) s e b h.1 h.2
  · unfold rnextI nextI; rw [if_neg h, if_neg h]

def runI (s : Int) : List (Int × Bool) → Int
  | [] => s
  | x :: r => if nextI s x.1 x.2 = 0 then 0 else runI (nextI s x.1 x.2) r
end Go.Proofs.Ythegjpkbgdkplaa
