/- The plain law of TopBroadcast: what is heard, what is wanted, what is released. -/
import Derived.Test.YtmhgoknbmbicmaaTopB
namespace Go.Proofs.Ytmhgoknbmbicmaa
open Go.RowKit
set_option linter.unusedVariables false
set_option linter.unusedSimpArgs false

/-- the tag that a packet bears -/
noncomputable def ptag (K : Nat → Int × Int) (q : Pkt) : Int := if q.bad = true then q.tag else rightTag (K q.i.toNat) q.b
/-- does it come in time? -/
def safeP (st sp de co : Int) (q : Pkt) : Bool := decide (ivI st sp de co (q.at' + q.err) < q.i + de)
/-- is it wanted? -/
noncomputable def wantP (K : Nat → Int × Int) (st sp de co : Int) (q : Pkt) : Bool := safeP st sp de co q && (ptag K q == rightTag (K q.i.toNat) q.b)
/-- what is held of some packets -/
noncomputable def heardOf (K : Nat → Int × Int) (st sp de co : Int) (qs : List Pkt) : List (Int × List Int × Int) := (qs.filter (safeP st sp de co)).map fun q => (q.i, q.b, ptag K q)
def msgOf (m : Msg) : Int × List Int × Int := (m.iv, m.b, m.tag)

theorem released (K K' : Nat → Int × Int) (st sp de co : Int) (qs : List Pkt) (l : List Msg) (h : l.map msgOf = heardOf K st sp de co qs) (hK : ∀ q ∈ qs, K' q.i.toNat = K q.i.toNat) (hi : ∀ q ∈ qs, q.i ≤ co) :
    (outM K' co l).map (·.b) = (qs.filter (wantP K st sp de co)).map (·.b) := by
  induction qs generalizing l with
  | nil =>
    have : l = [] := by simpa [heardOf] using h
    subst this; rfl
  | cons q r ih =>
    have hr : ∀ x ∈ r, K' x.i.toNat = K x.i.toNat := fun x hx => hK x (List.mem_cons_of_mem _ hx)
    have hi' : ∀ x ∈ r, x.i ≤ co := fun x hx => hi x (List.mem_cons_of_mem _ hx)
    cases hs : safeP st sp de co q with
    | false =>
      have h1 : heardOf K st sp de co (q :: r) = heardOf K st sp de co r := by simp [heardOf, hs]
      rw [h1] at h
      rw [ih l h hr hi']
      have : wantP K st sp de co q = false := by unfold wantP; rw [hs]; rfl
      simp [this]
    | true =>
      have h1 : heardOf K st sp de co (q :: r) = (q.i, q.b, ptag K q) :: heardOf K st sp de co r := by simp [heardOf, hs]
      rw [h1] at h
      cases l with
      | nil => simp at h
      | cons m t =>
        simp only [List.map_cons, List.cons.injEq] at h
        obtain ⟨h2, h3⟩ := h
        simp only [msgOf, Prod.mk.injEq] at h2
        obtain ⟨e1, e2, e3⟩ := h2
        have ih' := ih t h3 hr hi'
        have hq := hi q (List.mem_cons_self ..)
        have hkq := hK q (List.mem_cons_self ..)
        have ht : (decide (m.iv ≤ co) && (rightTag (K' m.iv.toNat) m.b == m.tag)) = wantP K st sp de co q := by
          unfold wantP
          rw [hs, Bool.true_and, e1, e2, e3, hkq, decide_eq_true hq, Bool.true_and, Bool.eq_iff_iff, beq_iff_eq, beq_iff_eq]
          exact eq_comm
        unfold outM at ih' ⊢
        rw [List.filter_cons, List.filter_cons, ht]
        cases hw : wantP K st sp de co q with
        | true => simp only [if_true, List.map_cons]; rw [ih', e2]
        | false => simpa using ih'
end Go.Proofs.Ytmhgoknbmbicmaa
