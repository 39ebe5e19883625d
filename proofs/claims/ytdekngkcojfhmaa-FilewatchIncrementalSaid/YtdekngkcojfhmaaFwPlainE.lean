/- File events, plain: the watcher that is polled before every event; what the law makes of its input. -/
import Derived.Test.YtdekngkcojfhmaaFwPlainB
namespace Go.Proofs.Ytdekngkcojfhmaa
set_option linter.unusedVariables false
set_option linter.unusedSimpArgs false
/-- the recorded events are a complete batch at the time t -/
def pollG (d t : Int) (G : List FEv) : Bool := match G.getLast? with
  | none => false
  | some l => decide (t - l.1 ≥ d)
def outG (d : Int) (G : List FEv) : List (Int × List FEv) := match G.getLast? with
  | none => []
  | some l => if nbE G = [] then [] else [(l.1 + d, nbE G)]
/-- what the recorded events and those to come are delivered as -/
def pend (d : Int) (G rest : List FEv) : List (Int × List FEv) := bat d G.dropLast (G.getLast?.toList ++ rest)
theorem pend_step (d : Int) (G : List FEv) (e : FEv) (rest : List FEv) : pend d G (e :: rest) = if pollG d e.1 G = true then outG d G ++ pend d [e] rest else pend d (G ++ [e]) rest := by
  refine snocInd (p := fun G => pend d G (e :: rest) = if pollG d e.1 G = true then outG d G ++ pend d [e] rest else pend d (G ++ [e]) rest) ?_ ?_ G
  · simp [pend, pollG]
  · intro G l _
    have e1 : pend d (G ++ [l]) (e :: rest) = bat d G (l :: e :: rest) := by simp [pend]
    have e2 : pend d (G ++ [l] ++ [e]) rest = bat d (G ++ [l]) (e :: rest) := by unfold pend; rw [List.dropLast_concat, List.getLast?_concat]; rfl
    have e3 : pend d [e] rest = bat d [] (e :: rest) := rfl
    have e4 : pollG d e.1 (G ++ [l]) = decide (e.1 - l.1 ≥ d) := by simp [pollG]
    have e5 : outG d (G ++ [l]) = if nbE (G ++ [l]) = [] then [] else [(l.1 + d, nbE (G ++ [l]))] := by simp [outG]
    rw [e1, e2, e3, e4, e5]
    rw [bat]
    by_cases h : e.1 - l.1 < d
    · have hd : decide (e.1 - l.1 ≥ d) = false := decide_eq_false (by omega)
      rw [if_pos ⟨by simp, h⟩, hd]
      rfl
    · have hd : decide (e.1 - l.1 ≥ d) = true := decide_eq_true (by omega)
      rw [if_neg (fun h' => h h'.2), hd, if_pos rfl]
theorem pend_nil (d : Int) (G : List FEv) : pend d G [] = outG d G := by
  refine snocInd (p := fun G => pend d G [] = outG d G) rfl ?_ G
  intro G l _
  have e1 : pend d (G ++ [l]) [] = bat d G [l] := by simp [pend]
  have e5 : outG d (G ++ [l]) = if nbE (G ++ [l]) = [] then [] else [(l.1 + d, nbE (G ++ [l]))] := by simp [outG]
  rw [e1, e5, bat, if_neg (by simp)]
  simp [bat]
end Go.Proofs.Ytdekngkcojfhmaa
