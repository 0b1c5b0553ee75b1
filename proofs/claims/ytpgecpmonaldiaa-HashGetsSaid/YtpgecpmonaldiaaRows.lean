/-
  NARROWER THAN 'FOR EVERY INPUT', by the rows' own cells (each row's printed sentence says how): HashAdds: loops · HashShares: loops · HashOrder: loops · HashKeeps: loops · HashOnce: loops · HashParts: loops.
  DERIVED. THE GIVEN ROWS OF THIS SEAT. 8 by the template 'for every input the law returns true; each argument reads behind the call as it read before'; 0 by the template 'total and deterministic' (their statements: YtpgecpmonaldiaaTotals.lean).
  GIVEN WITH THE SEED: the statements are not yours to turn. If you find one false, say at which input.
  Laid BY PROGRAM, IN A SANDBOX (cutbox-rows.mjs): the forced cells as the released guide's own fill.sh prints them over the translation 87ddbd2ac820f6ab… (all of the seat's roots in one cut). By AI agents, Wed Nov 11 2026. No macro, syntax, notation, axiom, sorry.
-/
import Derived.Test.YtpgecpmonaldiaaChecked
import GoSem.Claim
import GoSem.ClaimJoined
import GoSem.ClaimMapViews
import Derived.JoinedTies
import Derived.KernelRfl
namespace Go.Proofs.Ytpgecpmonaldiaa
/- THE CELL 'sum', in the pinned program and in every row, IS THE sha256 OF THE DUMP (.gsa) THAT YtpgecpmonaldiaaProg.lean LOADS. Nothing in Lean hashes anything: it is a label: what it is worth is what the hold of that sum in a sandbox is worth. -/
noncomputable def Try.pinned : Pinned := { name := "ytpgecpmonaldiaa", sum := "87ddbd2ac820f6abf9e7afada8678591dec39ef0cb2e2b35a006a6e97e9f7df4", checked := Try.checked }
namespace Rows
def none {H : Type} : Left H := { results := [], args := [] }

/-- 'sequentlaw31.HashAdds': WHATEVER THE INPUT: true; the input reads as it did. -/
def hashAddsSpec : ChangeSpec := { name := "hashAdds", fn := fun _ => fun
  | [d1, d2, d3] => { results := [.lit (.bool true)], args := [d1, d2, d3] }
  | _ => none }
def hashAddsRow : OpenClaim := { program := "ytpgecpmonaldiaa", sum := "87ddbd2ac820f6abf9e7afada8678591dec39ef0cb2e2b35a006a6e97e9f7df4", func := "sequent/sequentlaw31.HashAdds", spec := "hashAdds", inPlace := ["internal/bytealg.abigen_runtime_cmpstring"], unfollowed := true, recurses := true, loops := true, plainKeys := false, apart := false }
def HashAddsSaid : Prop := hashAddsRow.holds Try.pinned (OpenSpec.ofChange hashAddsSpec)

/-- ITS FALSE NEIGHBOUR: 'it returns false'. Refute it at one input. -/
def hashAddsWrong : ChangeSpec := { name := "hashAdds", fn := fun _ => fun
  | [d1, d2, d3] => { results := [.lit (.bool false)], args := [d1, d2, d3] }
  | _ => none }
def HashAddsWrongFalsely : Prop := hashAddsRow.holds Try.pinned (OpenSpec.ofChange hashAddsWrong)

/-- 'sequentlaw31.HashGets': WHATEVER THE INPUT: true; the input reads as it did. -/
def hashGetsSpec : ChangeSpec := { name := "hashGets", fn := fun _ => fun
  | [d1, d2, d3, d4] => { results := [.lit (.bool true)], args := [d1, d2, d3, d4] }
  | _ => none }
def hashGetsRow : OpenClaim := { program := "ytpgecpmonaldiaa", sum := "87ddbd2ac820f6abf9e7afada8678591dec39ef0cb2e2b35a006a6e97e9f7df4", func := "sequent/sequentlaw31.HashGets", spec := "hashGets", inPlace := ["internal/bytealg.abigen_runtime_cmpstring"], unfollowed := true, recurses := true, plainKeys := false, apart := false }
def HashGetsSaid : Prop := hashGetsRow.holds Try.pinned (OpenSpec.ofChange hashGetsSpec)

/-- ITS FALSE NEIGHBOUR: 'it returns false'. Refute it at one input. -/
def hashGetsWrong : ChangeSpec := { name := "hashGets", fn := fun _ => fun
  | [d1, d2, d3, d4] => { results := [.lit (.bool false)], args := [d1, d2, d3, d4] }
  | _ => none }
def HashGetsWrongFalsely : Prop := hashGetsRow.holds Try.pinned (OpenSpec.ofChange hashGetsWrong)

/-- 'sequentlaw31.HashShares': WHATEVER THE INPUT: true; the input reads as it did. -/
def hashSharesSpec : ChangeSpec := { name := "hashShares", fn := fun _ => fun
  | [d1, d2] => { results := [.lit (.bool true)], args := [d1, d2] }
  | _ => none }
def hashSharesRow : OpenClaim := { program := "ytpgecpmonaldiaa", sum := "87ddbd2ac820f6abf9e7afada8678591dec39ef0cb2e2b35a006a6e97e9f7df4", func := "sequent/sequentlaw31.HashShares", spec := "hashShares", inPlace := ["internal/bytealg.abigen_runtime_cmpstring"], unfollowed := true, recurses := true, loops := true, plainKeys := false, apart := false }
def HashSharesSaid : Prop := hashSharesRow.holds Try.pinned (OpenSpec.ofChange hashSharesSpec)

/-- ITS FALSE NEIGHBOUR: 'it returns false'. Refute it at one input. -/
def hashSharesWrong : ChangeSpec := { name := "hashShares", fn := fun _ => fun
  | [d1, d2] => { results := [.lit (.bool false)], args := [d1, d2] }
  | _ => none }
def HashSharesWrongFalsely : Prop := hashSharesRow.holds Try.pinned (OpenSpec.ofChange hashSharesWrong)

/-- 'sequentlaw31.HashOrder': WHATEVER THE INPUT: true; the input reads as it did. -/
def hashOrderSpec : ChangeSpec := { name := "hashOrder", fn := fun _ => fun
  | [d1, d2, d3] => { results := [.lit (.bool true)], args := [d1, d2, d3] }
  | _ => none }
def hashOrderRow : OpenClaim := { program := "ytpgecpmonaldiaa", sum := "87ddbd2ac820f6abf9e7afada8678591dec39ef0cb2e2b35a006a6e97e9f7df4", func := "sequent/sequentlaw31.HashOrder", spec := "hashOrder", inPlace := ["internal/bytealg.abigen_runtime_cmpstring"], unfollowed := true, recurses := true, loops := true, plainKeys := false, apart := false }
def HashOrderSaid : Prop := hashOrderRow.holds Try.pinned (OpenSpec.ofChange hashOrderSpec)

/-- ITS FALSE NEIGHBOUR: 'it returns false'. Refute it at one input. -/
def hashOrderWrong : ChangeSpec := { name := "hashOrder", fn := fun _ => fun
  | [d1, d2, d3] => { results := [.lit (.bool false)], args := [d1, d2, d3] }
  | _ => none }
def HashOrderWrongFalsely : Prop := hashOrderRow.holds Try.pinned (OpenSpec.ofChange hashOrderWrong)

/-- 'sequentlaw31.HashKeeps': WHATEVER THE INPUT: true; the input reads as it did. -/
def hashKeepsSpec : ChangeSpec := { name := "hashKeeps", fn := fun _ => fun
  | [d1, d2] => { results := [.lit (.bool true)], args := [d1, d2] }
  | _ => none }
def hashKeepsRow : OpenClaim := { program := "ytpgecpmonaldiaa", sum := "87ddbd2ac820f6abf9e7afada8678591dec39ef0cb2e2b35a006a6e97e9f7df4", func := "sequent/sequentlaw31.HashKeeps", spec := "hashKeeps", inPlace := ["internal/bytealg.abigen_runtime_cmpstring"], unfollowed := true, recurses := true, loops := true, plainKeys := false, apart := false }
def HashKeepsSaid : Prop := hashKeepsRow.holds Try.pinned (OpenSpec.ofChange hashKeepsSpec)

/-- ITS FALSE NEIGHBOUR: 'it returns false'. Refute it at one input. -/
def hashKeepsWrong : ChangeSpec := { name := "hashKeeps", fn := fun _ => fun
  | [d1, d2] => { results := [.lit (.bool false)], args := [d1, d2] }
  | _ => none }
def HashKeepsWrongFalsely : Prop := hashKeepsRow.holds Try.pinned (OpenSpec.ofChange hashKeepsWrong)

/-- 'sequentlaw31.HashOnce': WHATEVER THE INPUT: true; the input reads as it did. -/
def hashOnceSpec : ChangeSpec := { name := "hashOnce", fn := fun _ => fun
  | [d1, d2, d3] => { results := [.lit (.bool true)], args := [d1, d2, d3] }
  | _ => none }
def hashOnceRow : OpenClaim := { program := "ytpgecpmonaldiaa", sum := "87ddbd2ac820f6abf9e7afada8678591dec39ef0cb2e2b35a006a6e97e9f7df4", func := "sequent/sequentlaw31.HashOnce", spec := "hashOnce", inPlace := ["internal/bytealg.abigen_runtime_cmpstring"], unfollowed := true, recurses := true, loops := true, plainKeys := false, apart := false }
def HashOnceSaid : Prop := hashOnceRow.holds Try.pinned (OpenSpec.ofChange hashOnceSpec)

/-- ITS FALSE NEIGHBOUR: 'it returns false'. Refute it at one input. -/
def hashOnceWrong : ChangeSpec := { name := "hashOnce", fn := fun _ => fun
  | [d1, d2, d3] => { results := [.lit (.bool false)], args := [d1, d2, d3] }
  | _ => none }
def HashOnceWrongFalsely : Prop := hashOnceRow.holds Try.pinned (OpenSpec.ofChange hashOnceWrong)

/-- 'sequentlaw31.HashParts': WHATEVER THE INPUT: true; the input reads as it did. -/
def hashPartsSpec : ChangeSpec := { name := "hashParts", fn := fun _ => fun
  | [d1, d2, d3] => { results := [.lit (.bool true)], args := [d1, d2, d3] }
  | _ => none }
def hashPartsRow : OpenClaim := { program := "ytpgecpmonaldiaa", sum := "87ddbd2ac820f6abf9e7afada8678591dec39ef0cb2e2b35a006a6e97e9f7df4", func := "sequent/sequentlaw31.HashParts", spec := "hashParts", inPlace := ["internal/bytealg.abigen_runtime_cmpstring"], unfollowed := true, recurses := true, loops := true, plainKeys := false, apart := false }
def HashPartsSaid : Prop := hashPartsRow.holds Try.pinned (OpenSpec.ofChange hashPartsSpec)

/-- ITS FALSE NEIGHBOUR: 'it returns false'. Refute it at one input. -/
def hashPartsWrong : ChangeSpec := { name := "hashParts", fn := fun _ => fun
  | [d1, d2, d3] => { results := [.lit (.bool false)], args := [d1, d2, d3] }
  | _ => none }
def HashPartsWrongFalsely : Prop := hashPartsRow.holds Try.pinned (OpenSpec.ofChange hashPartsWrong)

/-- 'sequentlaw31.HashNames': WHATEVER THE INPUT: true; the input reads as it did. -/
def hashNamesSpec : ChangeSpec := { name := "hashNames", fn := fun _ => fun
  | [] => { results := [.lit (.bool true)], args := [] }
  | _ => none }
def hashNamesRow : OpenClaim := { program := "ytpgecpmonaldiaa", sum := "87ddbd2ac820f6abf9e7afada8678591dec39ef0cb2e2b35a006a6e97e9f7df4", func := "sequent/sequentlaw31.HashNames", spec := "hashNames", inPlace := ["internal/bytealg.abigen_runtime_cmpstring"], unfollowed := true, recurses := true, plainKeys := false, apart := false }
def HashNamesSaid : Prop := hashNamesRow.holds Try.pinned (OpenSpec.ofChange hashNamesSpec)

/-- ITS FALSE NEIGHBOUR: 'it returns false'. Refute it at one input. -/
def hashNamesWrong : ChangeSpec := { name := "hashNames", fn := fun _ => fun
  | [] => { results := [.lit (.bool false)], args := [] }
  | _ => none }
def HashNamesWrongFalsely : Prop := hashNamesRow.holds Try.pinned (OpenSpec.ofChange hashNamesWrong)

/- THE SECOND FORM. 'bulk': how many values and letters a reading holds, each counted each time it is reached (what is shared counts as often as it is met; a slice's spare places count too). A statement '..UptoSaid' is the law's where the arguments, and the package variables that the reading takes, are together of bulk at most 1048576: NARROWER than '..Said'. Prove '..Said' where nothing that the law and all that it calls make is longer than what came in: it says more and counts as full. Else prove '..UptoSaid'. A law counts once. -/
mutual
def uptoBulk {H : Type} : DataW H → Nat
  | .lit (.string bytes) => bytes.length + 1
  | .lit _ => 1
  | .nil => 1
  | .ptr d => uptoBulk d + 1
  | .slice elems spare => uptoBulkAll elems + uptoBulkAll spare + 1
  | .agg parts => uptoBulkAll parts + 1
  | .iface _ d => uptoBulk d + 1
  | .map entries => uptoBulkEntries entries + 1
  | .held _ => 1
def uptoBulkAll {H : Type} : List (DataW H) → Nat
  | [] => 0
  | d :: r => uptoBulk d + uptoBulkAll r
def uptoBulkEntries {H : Type} : List (Lit × DataW H) → Nat
  | [] => 0
  | x :: r => uptoBulkEntry x + uptoBulkEntries r
def uptoBulkEntry {H : Type} : Lit × DataW H → Nat
  | (.string bytes, d) => bytes.length + uptoBulk d + 1
  | (_, d) => uptoBulk d + 1
 end
def uptoSmall : (H : Type) → List (DataW H) → Bool := fun _ ds => decide (uptoBulkAll ds ≤ 1048576)
def OpenSpec.upto (s : _root_.Go.ChangeSpec) : _root_.Go.OpenSpec := { _root_.Go.OpenSpec.ofChange s with cond := some uptoSmall }

/-- 'sequentlaw31.HashAdds', WHERE WHAT IT READS IS OF BULK AT MOST 1048576: true; the input reads as it did. -/
def hashAddsUptoRow : OpenClaim := { program := "ytpgecpmonaldiaa", sum := "87ddbd2ac820f6abf9e7afada8678591dec39ef0cb2e2b35a006a6e97e9f7df4", func := "sequent/sequentlaw31.HashAdds", spec := "hashAdds", inPlace := ["internal/bytealg.abigen_runtime_cmpstring"], unfollowed := true, recurses := true, loops := true, plainKeys := false, apart := false, narrowed := true }
def HashAddsUptoSaid : Prop := hashAddsUptoRow.holds Try.pinned (OpenSpec.upto hashAddsSpec)

/-- 'sequentlaw31.HashGets', WHERE WHAT IT READS IS OF BULK AT MOST 1048576: true; the input reads as it did. -/
def hashGetsUptoRow : OpenClaim := { program := "ytpgecpmonaldiaa", sum := "87ddbd2ac820f6abf9e7afada8678591dec39ef0cb2e2b35a006a6e97e9f7df4", func := "sequent/sequentlaw31.HashGets", spec := "hashGets", inPlace := ["internal/bytealg.abigen_runtime_cmpstring"], unfollowed := true, recurses := true, plainKeys := false, apart := false, narrowed := true }
def HashGetsUptoSaid : Prop := hashGetsUptoRow.holds Try.pinned (OpenSpec.upto hashGetsSpec)

/-- 'sequentlaw31.HashShares', WHERE WHAT IT READS IS OF BULK AT MOST 1048576: true; the input reads as it did. -/
def hashSharesUptoRow : OpenClaim := { program := "ytpgecpmonaldiaa", sum := "87ddbd2ac820f6abf9e7afada8678591dec39ef0cb2e2b35a006a6e97e9f7df4", func := "sequent/sequentlaw31.HashShares", spec := "hashShares", inPlace := ["internal/bytealg.abigen_runtime_cmpstring"], unfollowed := true, recurses := true, loops := true, plainKeys := false, apart := false, narrowed := true }
def HashSharesUptoSaid : Prop := hashSharesUptoRow.holds Try.pinned (OpenSpec.upto hashSharesSpec)

/-- 'sequentlaw31.HashOrder', WHERE WHAT IT READS IS OF BULK AT MOST 1048576: true; the input reads as it did. -/
def hashOrderUptoRow : OpenClaim := { program := "ytpgecpmonaldiaa", sum := "87ddbd2ac820f6abf9e7afada8678591dec39ef0cb2e2b35a006a6e97e9f7df4", func := "sequent/sequentlaw31.HashOrder", spec := "hashOrder", inPlace := ["internal/bytealg.abigen_runtime_cmpstring"], unfollowed := true, recurses := true, loops := true, plainKeys := false, apart := false, narrowed := true }
def HashOrderUptoSaid : Prop := hashOrderUptoRow.holds Try.pinned (OpenSpec.upto hashOrderSpec)

/-- 'sequentlaw31.HashKeeps', WHERE WHAT IT READS IS OF BULK AT MOST 1048576: true; the input reads as it did. -/
def hashKeepsUptoRow : OpenClaim := { program := "ytpgecpmonaldiaa", sum := "87ddbd2ac820f6abf9e7afada8678591dec39ef0cb2e2b35a006a6e97e9f7df4", func := "sequent/sequentlaw31.HashKeeps", spec := "hashKeeps", inPlace := ["internal/bytealg.abigen_runtime_cmpstring"], unfollowed := true, recurses := true, loops := true, plainKeys := false, apart := false, narrowed := true }
def HashKeepsUptoSaid : Prop := hashKeepsUptoRow.holds Try.pinned (OpenSpec.upto hashKeepsSpec)

/-- 'sequentlaw31.HashOnce', WHERE WHAT IT READS IS OF BULK AT MOST 1048576: true; the input reads as it did. -/
def hashOnceUptoRow : OpenClaim := { program := "ytpgecpmonaldiaa", sum := "87ddbd2ac820f6abf9e7afada8678591dec39ef0cb2e2b35a006a6e97e9f7df4", func := "sequent/sequentlaw31.HashOnce", spec := "hashOnce", inPlace := ["internal/bytealg.abigen_runtime_cmpstring"], unfollowed := true, recurses := true, loops := true, plainKeys := false, apart := false, narrowed := true }
def HashOnceUptoSaid : Prop := hashOnceUptoRow.holds Try.pinned (OpenSpec.upto hashOnceSpec)

/-- 'sequentlaw31.HashParts', WHERE WHAT IT READS IS OF BULK AT MOST 1048576: true; the input reads as it did. -/
def hashPartsUptoRow : OpenClaim := { program := "ytpgecpmonaldiaa", sum := "87ddbd2ac820f6abf9e7afada8678591dec39ef0cb2e2b35a006a6e97e9f7df4", func := "sequent/sequentlaw31.HashParts", spec := "hashParts", inPlace := ["internal/bytealg.abigen_runtime_cmpstring"], unfollowed := true, recurses := true, loops := true, plainKeys := false, apart := false, narrowed := true }
def HashPartsUptoSaid : Prop := hashPartsUptoRow.holds Try.pinned (OpenSpec.upto hashPartsSpec)

/-- 'sequentlaw31.HashNames', WHERE WHAT IT READS IS OF BULK AT MOST 1048576: true; the input reads as it did. -/
def hashNamesUptoRow : OpenClaim := { program := "ytpgecpmonaldiaa", sum := "87ddbd2ac820f6abf9e7afada8678591dec39ef0cb2e2b35a006a6e97e9f7df4", func := "sequent/sequentlaw31.HashNames", spec := "hashNames", inPlace := ["internal/bytealg.abigen_runtime_cmpstring"], unfollowed := true, recurses := true, plainKeys := false, apart := false, narrowed := true }
def HashNamesUptoSaid : Prop := hashNamesUptoRow.holds Try.pinned (OpenSpec.upto hashNamesSpec)

end Rows
end Go.Proofs.Ytpgecpmonaldiaa
