/-
  NARROWER THAN 'FOR EVERY INPUT', by the rows' own cells (each row's printed sentence says how): ScriptFlats: loops · NumeralReads: loops · LogicTerms: loops · NumTerms: loops · TacticChecks: loops.
  DERIVED. THE GIVEN ROWS OF THIS SEAT. 5 by the template 'for every input the law returns true; each argument reads behind the call as it read before'; 0 by the template 'total and deterministic' (their statements: YtdjmibbgoajcaaaTotals.lean).
  GIVEN WITH THE SEED: the statements are not yours to turn. If you find one false, say at which input.
  Laid BY PROGRAM, IN A SANDBOX (cutbox-rows.mjs): the forced cells as the released guide's own fill.sh prints them over the translation d9ec68014983edf4… (all of the seat's roots in one cut). By AI agents, Wed Nov 11 2026. No macro, syntax, notation, axiom, sorry.
-/
import Derived.Test.YtdjmibbgoajcaaaChecked
import GoSem.Claim
import GoSem.ClaimJoined
import GoSem.ClaimMapViews
import Derived.JoinedTies
import Derived.KernelRfl
namespace Go.Proofs.Ytdjmibbgoajcaaa
/- THE CELL 'sum', in the pinned program and in every row, IS THE sha256 OF THE DUMP (.gsa) THAT YtdjmibbgoajcaaaProg.lean LOADS. Nothing in Lean hashes anything: it is a label: what it is worth is what the hold of that sum in a sandbox is worth. -/
noncomputable def Try.pinned : Pinned := { name := "ytdjmibbgoajcaaa", sum := "d9ec68014983edf46c3f5acb9c33950847e69eec9dc55723ba7860b20744d81f", checked := Try.checked }
namespace Rows
def none {H : Type} : Left H := { results := [], args := [] }

/-- 'sequentlaw30.ScriptFlats': WHATEVER THE INPUT: true; the input reads as it did. -/
def scriptFlatsSpec : ChangeSpec := { name := "scriptFlats", fn := fun _ => fun
  | [d1, d2] => { results := [.lit (.bool true)], args := [d1, d2] }
  | _ => none }
def scriptFlatsRow : OpenClaim := { program := "ytdjmibbgoajcaaa", sum := "d9ec68014983edf46c3f5acb9c33950847e69eec9dc55723ba7860b20744d81f", func := "sequent/sequentlaw30.ScriptFlats", spec := "scriptFlats", inPlace := ["internal/bytealg.abigen_runtime_cmpstring"], unfollowed := true, recurses := true, loops := true, apart := false }
def ScriptFlatsSaid : Prop := scriptFlatsRow.holds Try.pinned (OpenSpec.ofChange scriptFlatsSpec)

/-- ITS FALSE NEIGHBOUR: 'it returns false'. Refute it at one input. -/
def scriptFlatsWrong : ChangeSpec := { name := "scriptFlats", fn := fun _ => fun
  | [d1, d2] => { results := [.lit (.bool false)], args := [d1, d2] }
  | _ => none }
def ScriptFlatsWrongFalsely : Prop := scriptFlatsRow.holds Try.pinned (OpenSpec.ofChange scriptFlatsWrong)

/-- 'sequentlaw22.NumeralReads': WHATEVER THE INPUT: true; the input reads as it did. -/
def numeralReadsSpec : ChangeSpec := { name := "numeralReads", fn := fun _ => fun
  | [d1, d2] => { results := [.lit (.bool true)], args := [d1, d2] }
  | _ => none }
def numeralReadsRow : OpenClaim := { program := "ytdjmibbgoajcaaa", sum := "d9ec68014983edf46c3f5acb9c33950847e69eec9dc55723ba7860b20744d81f", func := "sequent/sequentlaw22.NumeralReads", spec := "numeralReads", inPlace := ["internal/bytealg.abigen_runtime_cmpstring"], unfollowed := true, recurses := true, loops := true, apart := false }
def NumeralReadsSaid : Prop := numeralReadsRow.holds Try.pinned (OpenSpec.ofChange numeralReadsSpec)

/-- ITS FALSE NEIGHBOUR: 'it returns false'. Refute it at one input. -/
def numeralReadsWrong : ChangeSpec := { name := "numeralReads", fn := fun _ => fun
  | [d1, d2] => { results := [.lit (.bool false)], args := [d1, d2] }
  | _ => none }
def NumeralReadsWrongFalsely : Prop := numeralReadsRow.holds Try.pinned (OpenSpec.ofChange numeralReadsWrong)

/-- 'sequentlaw09.LogicTerms': WHATEVER THE INPUT: true; the input reads as it did. -/
def logicTermsSpec : ChangeSpec := { name := "logicTerms", fn := fun _ => fun
  | [d1, d2] => { results := [.lit (.bool true)], args := [d1, d2] }
  | _ => none }
def logicTermsRow : OpenClaim := { program := "ytdjmibbgoajcaaa", sum := "d9ec68014983edf46c3f5acb9c33950847e69eec9dc55723ba7860b20744d81f", func := "sequent/sequentlaw09.LogicTerms", spec := "logicTerms", inPlace := ["internal/bytealg.abigen_runtime_cmpstring"], unfollowed := true, recurses := true, loops := true, apart := false }
def LogicTermsSaid : Prop := logicTermsRow.holds Try.pinned (OpenSpec.ofChange logicTermsSpec)

/-- ITS FALSE NEIGHBOUR: 'it returns false'. Refute it at one input. -/
def logicTermsWrong : ChangeSpec := { name := "logicTerms", fn := fun _ => fun
  | [d1, d2] => { results := [.lit (.bool false)], args := [d1, d2] }
  | _ => none }
def LogicTermsWrongFalsely : Prop := logicTermsRow.holds Try.pinned (OpenSpec.ofChange logicTermsWrong)

/-- 'sequentlaw21.NumTerms': WHATEVER THE INPUT: true; the input reads as it did. -/
def numTermsSpec : ChangeSpec := { name := "numTerms", fn := fun _ => fun
  | [d1, d2, d3] => { results := [.lit (.bool true)], args := [d1, d2, d3] }
  | _ => none }
def numTermsRow : OpenClaim := { program := "ytdjmibbgoajcaaa", sum := "d9ec68014983edf46c3f5acb9c33950847e69eec9dc55723ba7860b20744d81f", func := "sequent/sequentlaw21.NumTerms", spec := "numTerms", inPlace := ["internal/bytealg.abigen_runtime_cmpstring"], unfollowed := true, recurses := true, loops := true, apart := false }
def NumTermsSaid : Prop := numTermsRow.holds Try.pinned (OpenSpec.ofChange numTermsSpec)

/-- ITS FALSE NEIGHBOUR: 'it returns false'. Refute it at one input. -/
def numTermsWrong : ChangeSpec := { name := "numTerms", fn := fun _ => fun
  | [d1, d2, d3] => { results := [.lit (.bool false)], args := [d1, d2, d3] }
  | _ => none }
def NumTermsWrongFalsely : Prop := numTermsRow.holds Try.pinned (OpenSpec.ofChange numTermsWrong)

/-- 'sequentlaw29.TacticChecks': WHATEVER THE INPUT: true; the input reads as it did. -/
def tacticChecksSpec : ChangeSpec := { name := "tacticChecks", fn := fun _ => fun
  | [d1, d2] => { results := [.lit (.bool true)], args := [d1, d2] }
  | _ => none }
def tacticChecksRow : OpenClaim := { program := "ytdjmibbgoajcaaa", sum := "d9ec68014983edf46c3f5acb9c33950847e69eec9dc55723ba7860b20744d81f", func := "sequent/sequentlaw29.TacticChecks", spec := "tacticChecks", inPlace := ["internal/bytealg.abigen_runtime_cmpstring"], unfollowed := true, recurses := true, loops := true, apart := false }
def TacticChecksSaid : Prop := tacticChecksRow.holds Try.pinned (OpenSpec.ofChange tacticChecksSpec)

/-- ITS FALSE NEIGHBOUR: 'it returns false'. Refute it at one input. -/
def tacticChecksWrong : ChangeSpec := { name := "tacticChecks", fn := fun _ => fun
  | [d1, d2] => { results := [.lit (.bool false)], args := [d1, d2] }
  | _ => none }
def TacticChecksWrongFalsely : Prop := tacticChecksRow.holds Try.pinned (OpenSpec.ofChange tacticChecksWrong)

/- THE SECOND FORM. 'bulk': how many values and letters a reading holds, each counted each time it is reached (what is shared counts as often as it is met; a slice's spare places count too). A statement '..UptoSaid' is the law's where the arguments, and the package variables that the reading takes, are together of bulk at most 1048576: NARROWER than '..Said'. Prove '..Said' where nothing that the law and all that it calls make is longer than what came in: it says more and counts as full. Else prove '..UptoSaid'. A law counts once. -/
mutual
def uptoBulk {H : Type} : DataW H → Nat
  | .lit (.string bytes) => bytes.length + 1
  | .lit _ => 1
  | .nil => 1
  | .ptr d => uptoBulk d + 1
  | .slice elems spare => uptoBulkAll elems + uptoBulkAll spare + 1
  | .agg parts => uptoBulkAll parts + 1
  | .iface _ d => uptoBulk d + 1
  | .map entries => uptoBulkEntries entries + 1
  | .held _ => 1
def uptoBulkAll {H : Type} : List (DataW H) → Nat
  | [] => 0
  | d :: r => uptoBulk d + uptoBulkAll r
def uptoBulkEntries {H : Type} : List (Lit × DataW H) → Nat
  | [] => 0
  | x :: r => uptoBulkEntry x + uptoBulkEntries r
def uptoBulkEntry {H : Type} : Lit × DataW H → Nat
  | (.string bytes, d) => bytes.length + uptoBulk d + 1
  | (_, d) => uptoBulk d + 1
 end
def uptoSmall : (H : Type) → List (DataW H) → Bool := fun _ ds => decide (uptoBulkAll ds ≤ 1048576)
def OpenSpec.upto (s : _root_.Go.ChangeSpec) : _root_.Go.OpenSpec := { _root_.Go.OpenSpec.ofChange s with cond := some uptoSmall }

/-- 'sequentlaw30.ScriptFlats', WHERE WHAT IT READS IS OF BULK AT MOST 1048576: true; the input reads as it did. -/
def scriptFlatsUptoRow : OpenClaim := { program := "ytdjmibbgoajcaaa", sum := "d9ec68014983edf46c3f5acb9c33950847e69eec9dc55723ba7860b20744d81f", func := "sequent/sequentlaw30.ScriptFlats", spec := "scriptFlats", inPlace := ["internal/bytealg.abigen_runtime_cmpstring"], unfollowed := true, recurses := true, loops := true, apart := false, narrowed := true }
def ScriptFlatsUptoSaid : Prop := scriptFlatsUptoRow.holds Try.pinned (OpenSpec.upto scriptFlatsSpec)

/-- 'sequentlaw22.NumeralReads', WHERE WHAT IT READS IS OF BULK AT MOST 1048576: true; the input reads as it did. -/
def numeralReadsUptoRow : OpenClaim := { program := "ytdjmibbgoajcaaa", sum := "d9ec68014983edf46c3f5acb9c33950847e69eec9dc55723ba7860b20744d81f", func := "sequent/sequentlaw22.NumeralReads", spec := "numeralReads", inPlace := ["internal/bytealg.abigen_runtime_cmpstring"], unfollowed := true, recurses := true, loops := true, apart := false, narrowed := true }
def NumeralReadsUptoSaid : Prop := numeralReadsUptoRow.holds Try.pinned (OpenSpec.upto numeralReadsSpec)

/-- 'sequentlaw09.LogicTerms', WHERE WHAT IT READS IS OF BULK AT MOST 1048576: true; the input reads as it did. -/
def logicTermsUptoRow : OpenClaim := { program := "ytdjmibbgoajcaaa", sum := "d9ec68014983edf46c3f5acb9c33950847e69eec9dc55723ba7860b20744d81f", func := "sequent/sequentlaw09.LogicTerms", spec := "logicTerms", inPlace := ["internal/bytealg.abigen_runtime_cmpstring"], unfollowed := true, recurses := true, loops := true, apart := false, narrowed := true }
def LogicTermsUptoSaid : Prop := logicTermsUptoRow.holds Try.pinned (OpenSpec.upto logicTermsSpec)

/-- 'sequentlaw21.NumTerms', WHERE WHAT IT READS IS OF BULK AT MOST 1048576: true; the input reads as it did. -/
def numTermsUptoRow : OpenClaim := { program := "ytdjmibbgoajcaaa", sum := "d9ec68014983edf46c3f5acb9c33950847e69eec9dc55723ba7860b20744d81f", func := "sequent/sequentlaw21.NumTerms", spec := "numTerms", inPlace := ["internal/bytealg.abigen_runtime_cmpstring"], unfollowed := true, recurses := true, loops := true, apart := false, narrowed := true }
def NumTermsUptoSaid : Prop := numTermsUptoRow.holds Try.pinned (OpenSpec.upto numTermsSpec)

/-- 'sequentlaw29.TacticChecks', WHERE WHAT IT READS IS OF BULK AT MOST 1048576: true; the input reads as it did. -/
def tacticChecksUptoRow : OpenClaim := { program := "ytdjmibbgoajcaaa", sum := "d9ec68014983edf46c3f5acb9c33950847e69eec9dc55723ba7860b20744d81f", func := "sequent/sequentlaw29.TacticChecks", spec := "tacticChecks", inPlace := ["internal/bytealg.abigen_runtime_cmpstring"], unfollowed := true, recurses := true, loops := true, apart := false, narrowed := true }
def TacticChecksUptoSaid : Prop := tacticChecksUptoRow.holds Try.pinned (OpenSpec.upto tacticChecksSpec)

end Rows
end Go.Proofs.Ytdjmibbgoajcaaa
