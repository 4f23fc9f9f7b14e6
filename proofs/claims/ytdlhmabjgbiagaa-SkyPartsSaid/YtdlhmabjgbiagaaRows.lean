/-
  No cell of these rows narrows 'for every input' (looked for: loops, veiled, ifaces, maps, wideKeys, modest, calm, conditions, laid).
  DERIVED. THE GIVEN ROWS OF THIS SEAT. 9 by the template 'for every input the law returns true; each argument reads behind the call as it read before'; 0 by the template 'total and deterministic' (their statements: YtdlhmabjgbiagaaTotals.lean).
  GIVEN WITH THE SEED: the statements are not yours to turn. If you find one false, say at which input.
  Laid BY PROGRAM, IN A SANDBOX (cutbox-rows.mjs): the forced cells as the released guide's own fill.sh prints them over the translation 6df05cadf47c967e… (all of the seat's roots in one cut). By AI agents, Wed Nov 11 2026. No macro, syntax, notation, axiom, sorry.
-/
import Derived.Test.YtdlhmabjgbiagaaChecked
import GoSem.Claim
import GoSem.ClaimJoined
import GoSem.ClaimMapViews
import Derived.JoinedTies
import Derived.KernelRfl
namespace Go.Proofs.Ytdlhmabjgbiagaa
/- THE CELL 'sum', in the pinned program and in every row, IS THE sha256 OF THE DUMP (.gsa) THAT YtdlhmabjgbiagaaProg.lean LOADS. Nothing in Lean hashes anything: it is a label: what it is worth is what the hold of that sum in a sandbox is worth. -/
noncomputable def Try.pinned : Pinned := { name := "ytdlhmabjgbiagaa", sum := "6df05cadf47c967e351c9bfa381e936be2c2a9703834498f91694fe879acfc0c", checked := Try.checked }
namespace Rows
def none {H : Type} : Left H := { results := [], args := [] }

/-- 'ephemerislaw03.OctetRows': WHATEVER THE INPUT: true; the input reads as it did. -/
def octetRowsSpec : ChangeSpec := { name := "octetRows", fn := fun _ => fun
  | [d1, d2, d3] => { results := [.lit (.bool true)], args := [d1, d2, d3] }
  | _ => none }
def octetRowsRow : OpenClaim := { program := "ytdlhmabjgbiagaa", sum := "6df05cadf47c967e351c9bfa381e936be2c2a9703834498f91694fe879acfc0c", func := "ephemeris/ephemerislaw03.OctetRows", spec := "octetRows", unfollowed := true, recurses := true, apart := false }
def OctetRowsSaid : Prop := octetRowsRow.holds Try.pinned (OpenSpec.ofChange octetRowsSpec)

/-- ITS FALSE NEIGHBOUR: 'it returns false'. Refute it at one input. -/
def octetRowsWrong : ChangeSpec := { name := "octetRows", fn := fun _ => fun
  | [d1, d2, d3] => { results := [.lit (.bool false)], args := [d1, d2, d3] }
  | _ => none }
def OctetRowsWrongFalsely : Prop := octetRowsRow.holds Try.pinned (OpenSpec.ofChange octetRowsWrong)

/-- 'ephemerislaw03.OctetPlaces': WHATEVER THE INPUT: true; the input reads as it did. -/
def octetPlacesSpec : ChangeSpec := { name := "octetPlaces", fn := fun _ => fun
  | [d1, d2, d3] => { results := [.lit (.bool true)], args := [d1, d2, d3] }
  | _ => none }
def octetPlacesRow : OpenClaim := { program := "ytdlhmabjgbiagaa", sum := "6df05cadf47c967e351c9bfa381e936be2c2a9703834498f91694fe879acfc0c", func := "ephemeris/ephemerislaw03.OctetPlaces", spec := "octetPlaces", unfollowed := true, recurses := true, apart := false }
def OctetPlacesSaid : Prop := octetPlacesRow.holds Try.pinned (OpenSpec.ofChange octetPlacesSpec)

/-- ITS FALSE NEIGHBOUR: 'it returns false'. Refute it at one input. -/
def octetPlacesWrong : ChangeSpec := { name := "octetPlaces", fn := fun _ => fun
  | [d1, d2, d3] => { results := [.lit (.bool false)], args := [d1, d2, d3] }
  | _ => none }
def OctetPlacesWrongFalsely : Prop := octetPlacesRow.holds Try.pinned (OpenSpec.ofChange octetPlacesWrong)

/-- 'ephemerislaw03.OctetOrder': WHATEVER THE INPUT: true; the input reads as it did. -/
def octetOrderSpec : ChangeSpec := { name := "octetOrder", fn := fun _ => fun
  | [d1, d2, d3] => { results := [.lit (.bool true)], args := [d1, d2, d3] }
  | _ => none }
def octetOrderRow : OpenClaim := { program := "ytdlhmabjgbiagaa", sum := "6df05cadf47c967e351c9bfa381e936be2c2a9703834498f91694fe879acfc0c", func := "ephemeris/ephemerislaw03.OctetOrder", spec := "octetOrder", inPlace := ["internal/bytealg.Compare"], unfollowed := true, recurses := true, apart := false }
def OctetOrderSaid : Prop := octetOrderRow.holds Try.pinned (OpenSpec.ofChange octetOrderSpec)

/-- ITS FALSE NEIGHBOUR: 'it returns false'. Refute it at one input. -/
def octetOrderWrong : ChangeSpec := { name := "octetOrder", fn := fun _ => fun
  | [d1, d2, d3] => { results := [.lit (.bool false)], args := [d1, d2, d3] }
  | _ => none }
def OctetOrderWrongFalsely : Prop := octetOrderRow.holds Try.pinned (OpenSpec.ofChange octetOrderWrong)

/-- 'ephemerislaw03.OctetBack': WHATEVER THE INPUT: true; the input reads as it did. -/
def octetBackSpec : ChangeSpec := { name := "octetBack", fn := fun _ => fun
  | [d1, d2, d3] => { results := [.lit (.bool true)], args := [d1, d2, d3] }
  | _ => none }
def octetBackRow : OpenClaim := { program := "ytdlhmabjgbiagaa", sum := "6df05cadf47c967e351c9bfa381e936be2c2a9703834498f91694fe879acfc0c", func := "ephemeris/ephemerislaw03.OctetBack", spec := "octetBack", unfollowed := true, recurses := true, apart := false }
def OctetBackSaid : Prop := octetBackRow.holds Try.pinned (OpenSpec.ofChange octetBackSpec)

/-- ITS FALSE NEIGHBOUR: 'it returns false'. Refute it at one input. -/
def octetBackWrong : ChangeSpec := { name := "octetBack", fn := fun _ => fun
  | [d1, d2, d3] => { results := [.lit (.bool false)], args := [d1, d2, d3] }
  | _ => none }
def OctetBackWrongFalsely : Prop := octetBackRow.holds Try.pinned (OpenSpec.ofChange octetBackWrong)

/-- 'ephemerislaw19.SpanRules': WHATEVER THE INPUT: true; the input reads as it did. -/
def spanRulesSpec : ChangeSpec := { name := "spanRules", fn := fun _ => fun
  | [d1, d2, d3] => { results := [.lit (.bool true)], args := [d1, d2, d3] }
  | _ => none }
def spanRulesRow : OpenClaim := { program := "ytdlhmabjgbiagaa", sum := "6df05cadf47c967e351c9bfa381e936be2c2a9703834498f91694fe879acfc0c", func := "ephemeris/ephemerislaw19.SpanRules", spec := "spanRules", unfollowed := true, recurses := true, named := ["math/bits.divideError", "math/bits.overflowError"], apart := false }
def SpanRulesSaid : Prop := spanRulesRow.holds Try.pinned (OpenSpec.ofChange spanRulesSpec)

/-- ITS FALSE NEIGHBOUR: 'it returns false'. Refute it at one input. -/
def spanRulesWrong : ChangeSpec := { name := "spanRules", fn := fun _ => fun
  | [d1, d2, d3] => { results := [.lit (.bool false)], args := [d1, d2, d3] }
  | _ => none }
def SpanRulesWrongFalsely : Prop := spanRulesRow.holds Try.pinned (OpenSpec.ofChange spanRulesWrong)

/-- 'ephemerislaw30.SkyGoes': WHATEVER THE INPUT: true; the input reads as it did. -/
def skyGoesSpec : ChangeSpec := { name := "skyGoes", fn := fun _ => fun
  | [d1, d2, d3, d4, d5] => { results := [.lit (.bool true)], args := [d1, d2, d3, d4, d5] }
  | _ => none }
def skyGoesRow : OpenClaim := { program := "ytdlhmabjgbiagaa", sum := "6df05cadf47c967e351c9bfa381e936be2c2a9703834498f91694fe879acfc0c", func := "ephemeris/ephemerislaw30.SkyGoes", spec := "skyGoes", inPlace := ["math/bits.Add64"], unfollowed := true, recurses := true, named := ["math/bits.divideError", "math/bits.overflowError"], apart := false }
def SkyGoesSaid : Prop := skyGoesRow.holds Try.pinned (OpenSpec.ofChange skyGoesSpec)

/-- ITS FALSE NEIGHBOUR: 'it returns false'. Refute it at one input. -/
def skyGoesWrong : ChangeSpec := { name := "skyGoes", fn := fun _ => fun
  | [d1, d2, d3, d4, d5] => { results := [.lit (.bool false)], args := [d1, d2, d3, d4, d5] }
  | _ => none }
def SkyGoesWrongFalsely : Prop := skyGoesRow.holds Try.pinned (OpenSpec.ofChange skyGoesWrong)

/-- 'ephemerislaw30.SkyWhen': WHATEVER THE INPUT: true; the input reads as it did. -/
def skyWhenSpec : ChangeSpec := { name := "skyWhen", fn := fun _ => fun
  | [d1, d2, d3, d4, d5] => { results := [.lit (.bool true)], args := [d1, d2, d3, d4, d5] }
  | _ => none }
def skyWhenRow : OpenClaim := { program := "ytdlhmabjgbiagaa", sum := "6df05cadf47c967e351c9bfa381e936be2c2a9703834498f91694fe879acfc0c", func := "ephemeris/ephemerislaw30.SkyWhen", spec := "skyWhen", inPlace := ["math/bits.Add64"], unfollowed := true, recurses := true, named := ["math/bits.divideError", "math/bits.overflowError"], apart := false }
def SkyWhenSaid : Prop := skyWhenRow.holds Try.pinned (OpenSpec.ofChange skyWhenSpec)

/-- ITS FALSE NEIGHBOUR: 'it returns false'. Refute it at one input. -/
def skyWhenWrong : ChangeSpec := { name := "skyWhen", fn := fun _ => fun
  | [d1, d2, d3, d4, d5] => { results := [.lit (.bool false)], args := [d1, d2, d3, d4, d5] }
  | _ => none }
def SkyWhenWrongFalsely : Prop := skyWhenRow.holds Try.pinned (OpenSpec.ofChange skyWhenWrong)

/-- 'ephemerislaw30.SkyTells': WHATEVER THE INPUT: true; the input reads as it did. -/
def skyTellsSpec : ChangeSpec := { name := "skyTells", fn := fun _ => fun
  | [d1, d2, d3, d4, d5] => { results := [.lit (.bool true)], args := [d1, d2, d3, d4, d5] }
  | _ => none }
def skyTellsRow : OpenClaim := { program := "ytdlhmabjgbiagaa", sum := "6df05cadf47c967e351c9bfa381e936be2c2a9703834498f91694fe879acfc0c", func := "ephemeris/ephemerislaw30.SkyTells", spec := "skyTells", inPlace := ["math/bits.Add64"], unfollowed := true, recurses := true, named := ["math/bits.divideError", "math/bits.overflowError"], apart := false }
def SkyTellsSaid : Prop := skyTellsRow.holds Try.pinned (OpenSpec.ofChange skyTellsSpec)

/-- ITS FALSE NEIGHBOUR: 'it returns false'. Refute it at one input. -/
def skyTellsWrong : ChangeSpec := { name := "skyTells", fn := fun _ => fun
  | [d1, d2, d3, d4, d5] => { results := [.lit (.bool false)], args := [d1, d2, d3, d4, d5] }
  | _ => none }
def SkyTellsWrongFalsely : Prop := skyTellsRow.holds Try.pinned (OpenSpec.ofChange skyTellsWrong)

/-- 'ephemerislaw30.SkyParts': WHATEVER THE INPUT: true; the input reads as it did. -/
def skyPartsSpec : ChangeSpec := { name := "skyParts", fn := fun _ => fun
  | [d1, d2, d3, d4, d5] => { results := [.lit (.bool true)], args := [d1, d2, d3, d4, d5] }
  | _ => none }
def skyPartsRow : OpenClaim := { program := "ytdlhmabjgbiagaa", sum := "6df05cadf47c967e351c9bfa381e936be2c2a9703834498f91694fe879acfc0c", func := "ephemeris/ephemerislaw30.SkyParts", spec := "skyParts", inPlace := ["math/bits.Add64"], unfollowed := true, recurses := true, named := ["math/bits.divideError", "math/bits.overflowError"], apart := false }
def SkyPartsSaid : Prop := skyPartsRow.holds Try.pinned (OpenSpec.ofChange skyPartsSpec)

/-- ITS FALSE NEIGHBOUR: 'it returns false'. Refute it at one input. -/
def skyPartsWrong : ChangeSpec := { name := "skyParts", fn := fun _ => fun
  | [d1, d2, d3, d4, d5] => { results := [.lit (.bool false)], args := [d1, d2, d3, d4, d5] }
  | _ => none }
def SkyPartsWrongFalsely : Prop := skyPartsRow.holds Try.pinned (OpenSpec.ofChange skyPartsWrong)

/- THE SECOND FORM. 'bulk': how many values and letters a reading holds, each counted each time it is reached (what is shared counts as often as it is met; a slice's spare places count too). A statement '..UptoSaid' is the law's where the arguments, and the package variables that the reading takes, are together of bulk at most 1048576: NARROWER than '..Said'. Prove '..Said' where nothing that the law and all that it calls make is longer than what came in: it says more and counts as full. Else prove '..UptoSaid'. A law counts once. -/
mutual
def uptoBulk {H : Type} : DataW H → Nat
  | .lit (.string bytes) => bytes.length + 1
  | .lit _ => 1
  | .nil => 1
  | .ptr d => uptoBulk d + 1
  | .slice elems spare => uptoBulkAll elems + uptoBulkAll spare + 1
  | .agg parts => uptoBulkAll parts + 1
  | .iface _ d => uptoBulk d + 1
  | .map entries => uptoBulkEntries entries + 1
  | .held _ => 1
def uptoBulkAll {H : Type} : List (DataW H) → Nat
  | [] => 0
  | d :: r => uptoBulk d + uptoBulkAll r
def uptoBulkEntries {H : Type} : List (Lit × DataW H) → Nat
  | [] => 0
  | x :: r => uptoBulkEntry x + uptoBulkEntries r
def uptoBulkEntry {H : Type} : Lit × DataW H → Nat
  | (.string bytes, d) => bytes.length + uptoBulk d + 1
  | (_, d) => uptoBulk d + 1
 end
def uptoSmall : (H : Type) → List (DataW H) → Bool := fun _ ds => decide (uptoBulkAll ds ≤ 1048576)
def OpenSpec.upto (s : _root_.Go.ChangeSpec) : _root_.Go.OpenSpec := { _root_.Go.OpenSpec.ofChange s with cond := some uptoSmall }

/-- 'ephemerislaw03.OctetRows', WHERE WHAT IT READS IS OF BULK AT MOST 1048576: true; the input reads as it did. -/
def octetRowsUptoRow : OpenClaim := { program := "ytdlhmabjgbiagaa", sum := "6df05cadf47c967e351c9bfa381e936be2c2a9703834498f91694fe879acfc0c", func := "ephemeris/ephemerislaw03.OctetRows", spec := "octetRows", unfollowed := true, recurses := true, apart := false, narrowed := true }
def OctetRowsUptoSaid : Prop := octetRowsUptoRow.holds Try.pinned (OpenSpec.upto octetRowsSpec)

/-- 'ephemerislaw03.OctetPlaces', WHERE WHAT IT READS IS OF BULK AT MOST 1048576: true; the input reads as it did. -/
def octetPlacesUptoRow : OpenClaim := { program := "ytdlhmabjgbiagaa", sum := "6df05cadf47c967e351c9bfa381e936be2c2a9703834498f91694fe879acfc0c", func := "ephemeris/ephemerislaw03.OctetPlaces", spec := "octetPlaces", unfollowed := true, recurses := true, apart := false, narrowed := true }
def OctetPlacesUptoSaid : Prop := octetPlacesUptoRow.holds Try.pinned (OpenSpec.upto octetPlacesSpec)

/-- 'ephemerislaw03.OctetOrder', WHERE WHAT IT READS IS OF BULK AT MOST 1048576: true; the input reads as it did. -/
def octetOrderUptoRow : OpenClaim := { program := "ytdlhmabjgbiagaa", sum := "6df05cadf47c967e351c9bfa381e936be2c2a9703834498f91694fe879acfc0c", func := "ephemeris/ephemerislaw03.OctetOrder", spec := "octetOrder", inPlace := ["internal/bytealg.Compare"], unfollowed := true, recurses := true, apart := false, narrowed := true }
def OctetOrderUptoSaid : Prop := octetOrderUptoRow.holds Try.pinned (OpenSpec.upto octetOrderSpec)

/-- 'ephemerislaw03.OctetBack', WHERE WHAT IT READS IS OF BULK AT MOST 1048576: true; the input reads as it did. -/
def octetBackUptoRow : OpenClaim := { program := "ytdlhmabjgbiagaa", sum := "6df05cadf47c967e351c9bfa381e936be2c2a9703834498f91694fe879acfc0c", func := "ephemeris/ephemerislaw03.OctetBack", spec := "octetBack", unfollowed := true, recurses := true, apart := false, narrowed := true }
def OctetBackUptoSaid : Prop := octetBackUptoRow.holds Try.pinned (OpenSpec.upto octetBackSpec)

/-- 'ephemerislaw19.SpanRules', WHERE WHAT IT READS IS OF BULK AT MOST 1048576: true; the input reads as it did. -/
def spanRulesUptoRow : OpenClaim := { program := "ytdlhmabjgbiagaa", sum := "6df05cadf47c967e351c9bfa381e936be2c2a9703834498f91694fe879acfc0c", func := "ephemeris/ephemerislaw19.SpanRules", spec := "spanRules", unfollowed := true, recurses := true, named := ["math/bits.divideError", "math/bits.overflowError"], apart := false, narrowed := true }
def SpanRulesUptoSaid : Prop := spanRulesUptoRow.holds Try.pinned (OpenSpec.upto spanRulesSpec)

/-- 'ephemerislaw30.SkyGoes', WHERE WHAT IT READS IS OF BULK AT MOST 1048576: true; the input reads as it did. -/
def skyGoesUptoRow : OpenClaim := { program := "ytdlhmabjgbiagaa", sum := "6df05cadf47c967e351c9bfa381e936be2c2a9703834498f91694fe879acfc0c", func := "ephemeris/ephemerislaw30.SkyGoes", spec := "skyGoes", inPlace := ["math/bits.Add64"], unfollowed := true, recurses := true, named := ["math/bits.divideError", "math/bits.overflowError"], apart := false, narrowed := true }
def SkyGoesUptoSaid : Prop := skyGoesUptoRow.holds Try.pinned (OpenSpec.upto skyGoesSpec)

/-- 'ephemerislaw30.SkyWhen', WHERE WHAT IT READS IS OF BULK AT MOST 1048576: true; the input reads as it did. -/
def skyWhenUptoRow : OpenClaim := { program := "ytdlhmabjgbiagaa", sum := "6df05cadf47c967e351c9bfa381e936be2c2a9703834498f91694fe879acfc0c", func := "ephemeris/ephemerislaw30.SkyWhen", spec := "skyWhen", inPlace := ["math/bits.Add64"], unfollowed := true, recurses := true, named := ["math/bits.divideError", "math/bits.overflowError"], apart := false, narrowed := true }
def SkyWhenUptoSaid : Prop := skyWhenUptoRow.holds Try.pinned (OpenSpec.upto skyWhenSpec)

/-- 'ephemerislaw30.SkyTells', WHERE WHAT IT READS IS OF BULK AT MOST 1048576: true; the input reads as it did. -/
def skyTellsUptoRow : OpenClaim := { program := "ytdlhmabjgbiagaa", sum := "6df05cadf47c967e351c9bfa381e936be2c2a9703834498f91694fe879acfc0c", func := "ephemeris/ephemerislaw30.SkyTells", spec := "skyTells", inPlace := ["math/bits.Add64"], unfollowed := true, recurses := true, named := ["math/bits.divideError", "math/bits.overflowError"], apart := false, narrowed := true }
def SkyTellsUptoSaid : Prop := skyTellsUptoRow.holds Try.pinned (OpenSpec.upto skyTellsSpec)

/-- 'ephemerislaw30.SkyParts', WHERE WHAT IT READS IS OF BULK AT MOST 1048576: true; the input reads as it did. -/
def skyPartsUptoRow : OpenClaim := { program := "ytdlhmabjgbiagaa", sum := "6df05cadf47c967e351c9bfa381e936be2c2a9703834498f91694fe879acfc0c", func := "ephemeris/ephemerislaw30.SkyParts", spec := "skyParts", inPlace := ["math/bits.Add64"], unfollowed := true, recurses := true, named := ["math/bits.divideError", "math/bits.overflowError"], apart := false, narrowed := true }
def SkyPartsUptoSaid : Prop := skyPartsUptoRow.holds Try.pinned (OpenSpec.upto skyPartsSpec)

end Rows
end Go.Proofs.Ytdlhmabjgbiagaa
