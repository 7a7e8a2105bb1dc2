/-
  NARROWER THAN 'FOR EVERY INPUT', by the rows' own cells (each row's printed sentence says how): ColorsNearer: laid · LayerHidden: laid · PastGoes: laid · ColorsCount: laid · ColorsMap: laid · LayerFlat: laid · TilesOf: laid · LayerMerged: laid · GifTwice: laid · TilesPaint: laid · ColorsReduce: laid · GifWrites: laid · GifReads: laid · TilesTurn: laid.
  DERIVED. THE GIVEN ROWS OF THIS SEAT. 14 by the template 'for every input the law returns true; each argument reads behind the call as it read before'; 0 by the template 'total and deterministic' (their statements: YtnciahoifehkdaaDoorTotals.lean).
  GIVEN WITH THE SEED: the statements are not yours to turn. If you find one false, say at which input.
  Laid BY PROGRAM, IN A SANDBOX (cutbox-rows.mjs): the forced cells as the released guide's own fill.sh prints them over the translation 74d1754b244cab99… (all of the seat's roots in one cut). By AI agents, Wed Nov 11 2026. No macro, syntax, notation, axiom, sorry.
-/
import Derived.Test.YtnciahoifehkdaaDoorChecked
import GoSem.Claim
import GoSem.ClaimJoined
import GoSem.ClaimMapViews
import Derived.JoinedTies
import Derived.KernelRfl
namespace Go.Proofs.YtnciahoifehkdaaDoor
/- THE CELL 'sum', in the pinned program and in every row, IS THE sha256 OF THE DUMP (.gsa) THAT YtnciahoifehkdaaDoorProg.lean LOADS. Nothing in Lean hashes anything: it is a label: what it is worth is what the hold of that sum in a sandbox is worth. -/
noncomputable def Tryd.pinned : Pinned := { name := "ytnciahoifehkdaadoor", sum := "74d1754b244cab9959a1c81b8c6a6e818858cc67f3583f93c19b9015d5573787", checked := Tryd.checked }
namespace Rows
def none {H : Type} : Left H := { results := [], args := [] }

/- WHAT THE LISTED PACKAGE-LEVEL VARIABLES READ AS WHEN THE CALL BEGINS. Each datum BY PROGRAM (the guide's laid-datum.mjs) off the statement by which the dump's own 'gosem.cut.vars' lays the variable. In a bare row this is a premise. The card (YtnciahoifehkdaaDoorCards.lean) ties it to the program's text. -/
def laid_layercake_api_ErrBound {H : Type} : DataW H := .iface "*errors.errorString" (.ptr (.agg [.lit (.string [108, 97, 121, 101, 114, 99, 97, 107, 101, 58, 32, 98, 111, 117, 110, 100])]))
def laid_layercake_api_ErrShape {H : Type} : DataW H := .iface "*errors.errorString" (.ptr (.agg [.lit (.string [108, 97, 121, 101, 114, 99, 97, 107, 101, 58, 32, 115, 104, 97, 112, 101])]))
def laid_layercake_api_ErrName {H : Type} : DataW H := .iface "*errors.errorString" (.ptr (.agg [.lit (.string [108, 97, 121, 101, 114, 99, 97, 107, 101, 58, 32, 110, 97, 109, 101])]))
def laid_layercake_api_ErrNone {H : Type} : DataW H := .iface "*errors.errorString" (.ptr (.agg [.lit (.string [108, 97, 121, 101, 114, 99, 97, 107, 101, 58, 32, 110, 111, 110, 101])]))
def laid_errors_errorType {H : Type} : DataW H := .iface "internal/reflectlite.rtype" (.agg [.ptr (.lit (.string [101, 114, 114, 111, 114]))])
def laid_layercake_api_ErrText {H : Type} : DataW H := .iface "*errors.errorString" (.ptr (.agg [.lit (.string [108, 97, 121, 101, 114, 99, 97, 107, 101, 58, 32, 116, 101, 120, 116])]))
def laid_layercake_api_ErrSum {H : Type} : DataW H := .iface "*errors.errorString" (.ptr (.agg [.lit (.string [108, 97, 121, 101, 114, 99, 97, 107, 101, 58, 32, 115, 117, 109])]))
def laid_layercake_api_ErrColors {H : Type} : DataW H := .iface "*errors.errorString" (.ptr (.agg [.lit (.string [108, 97, 121, 101, 114, 99, 97, 107, 101, 58, 32, 99, 111, 108, 111, 114, 115])]))
def laid_layercake_api_ErrFull {H : Type} : DataW H := .iface "*errors.errorString" (.ptr (.agg [.lit (.string [108, 97, 121, 101, 114, 99, 97, 107, 101, 58, 32, 102, 117, 108, 108])]))
def laid_layercake_api_ErrPower {H : Type} : DataW H := .iface "*errors.errorString" (.ptr (.agg [.lit (.string [108, 97, 121, 101, 114, 99, 97, 107, 101, 58, 32, 112, 111, 119, 101, 114])]))
def laid_layercake_inflate_Lens {H : Type} : DataW H := .agg [.lit (.int .i64 3), .lit (.int .i64 4), .lit (.int .i64 5), .lit (.int .i64 6), .lit (.int .i64 7), .lit (.int .i64 8), .lit (.int .i64 9), .lit (.int .i64 10), .lit (.int .i64 11), .lit (.int .i64 13), .lit (.int .i64 15), .lit (.int .i64 17), .lit (.int .i64 19), .lit (.int .i64 23), .lit (.int .i64 27), .lit (.int .i64 31), .lit (.int .i64 35), .lit (.int .i64 43), .lit (.int .i64 51), .lit (.int .i64 59), .lit (.int .i64 67), .lit (.int .i64 83), .lit (.int .i64 99), .lit (.int .i64 115), .lit (.int .i64 131), .lit (.int .i64 163), .lit (.int .i64 195), .lit (.int .i64 227), .lit (.int .i64 258)]
def laid_layercake_inflate_LenBits {H : Type} : DataW H := .agg [.lit (.int .i64 0), .lit (.int .i64 0), .lit (.int .i64 0), .lit (.int .i64 0), .lit (.int .i64 0), .lit (.int .i64 0), .lit (.int .i64 0), .lit (.int .i64 0), .lit (.int .i64 1), .lit (.int .i64 1), .lit (.int .i64 1), .lit (.int .i64 1), .lit (.int .i64 2), .lit (.int .i64 2), .lit (.int .i64 2), .lit (.int .i64 2), .lit (.int .i64 3), .lit (.int .i64 3), .lit (.int .i64 3), .lit (.int .i64 3), .lit (.int .i64 4), .lit (.int .i64 4), .lit (.int .i64 4), .lit (.int .i64 4), .lit (.int .i64 5), .lit (.int .i64 5), .lit (.int .i64 5), .lit (.int .i64 5), .lit (.int .i64 0)]
def laid_layercake_inflate_Dists {H : Type} : DataW H := .agg [.lit (.int .i64 1), .lit (.int .i64 2), .lit (.int .i64 3), .lit (.int .i64 4), .lit (.int .i64 5), .lit (.int .i64 7), .lit (.int .i64 9), .lit (.int .i64 13), .lit (.int .i64 17), .lit (.int .i64 25), .lit (.int .i64 33), .lit (.int .i64 49), .lit (.int .i64 65), .lit (.int .i64 97), .lit (.int .i64 129), .lit (.int .i64 193), .lit (.int .i64 257), .lit (.int .i64 385), .lit (.int .i64 513), .lit (.int .i64 769), .lit (.int .i64 1025), .lit (.int .i64 1537), .lit (.int .i64 2049), .lit (.int .i64 3073), .lit (.int .i64 4097), .lit (.int .i64 6145), .lit (.int .i64 8193), .lit (.int .i64 12289), .lit (.int .i64 16385), .lit (.int .i64 24577)]
def laid_layercake_inflate_DistBits {H : Type} : DataW H := .agg [.lit (.int .i64 0), .lit (.int .i64 0), .lit (.int .i64 0), .lit (.int .i64 0), .lit (.int .i64 1), .lit (.int .i64 1), .lit (.int .i64 2), .lit (.int .i64 2), .lit (.int .i64 3), .lit (.int .i64 3), .lit (.int .i64 4), .lit (.int .i64 4), .lit (.int .i64 5), .lit (.int .i64 5), .lit (.int .i64 6), .lit (.int .i64 6), .lit (.int .i64 7), .lit (.int .i64 7), .lit (.int .i64 8), .lit (.int .i64 8), .lit (.int .i64 9), .lit (.int .i64 9), .lit (.int .i64 10), .lit (.int .i64 10), .lit (.int .i64 11), .lit (.int .i64 11), .lit (.int .i64 12), .lit (.int .i64 12), .lit (.int .i64 13), .lit (.int .i64 13)]
def laid_layercake_inflate_Order {H : Type} : DataW H := .agg [.lit (.int .i64 16), .lit (.int .i64 17), .lit (.int .i64 18), .lit (.int .i64 0), .lit (.int .i64 8), .lit (.int .i64 7), .lit (.int .i64 9), .lit (.int .i64 6), .lit (.int .i64 10), .lit (.int .i64 5), .lit (.int .i64 11), .lit (.int .i64 4), .lit (.int .i64 12), .lit (.int .i64 3), .lit (.int .i64 13), .lit (.int .i64 2), .lit (.int .i64 14), .lit (.int .i64 1), .lit (.int .i64 15)]

/-- 'layercakelaw3.ColorsNearer': WHATEVER THE INPUT: true; the input reads as it did. -/
def colorsNearerSpec : ChangeSpec := { name := "colorsNearer", fn := fun _ => fun
  | [d1, d2, d3] => { results := [.lit (.bool true)], args := [d1, d2, d3] }
  | _ => none }
def colorsNearerRow : OpenClaim := { program := "ytnciahoifehkdaadoor", sum := "74d1754b244cab9959a1c81b8c6a6e818858cc67f3583f93c19b9015d5573787", func := "layercake/layercakelaw3.ColorsNearer", spec := "colorsNearer", unfollowed := true, recurses := true, named := ["layercake/api.ErrShape", "layercake/api.ErrBound"], plainKeys := false, apart := false, laid := [("layercake/api.ErrBound", laid_layercake_api_ErrBound), ("layercake/api.ErrShape", laid_layercake_api_ErrShape)] }
def ColorsNearerSaid : Prop := colorsNearerRow.holds Tryd.pinned (OpenSpec.ofChange colorsNearerSpec)

/-- ITS FALSE NEIGHBOUR: 'it returns false'. Refute it at one input. -/
def colorsNearerWrong : ChangeSpec := { name := "colorsNearer", fn := fun _ => fun
  | [d1, d2, d3] => { results := [.lit (.bool false)], args := [d1, d2, d3] }
  | _ => none }
def ColorsNearerWrongFalsely : Prop := colorsNearerRow.holds Tryd.pinned (OpenSpec.ofChange colorsNearerWrong)

/-- 'layercakelaw3.LayerHidden': WHATEVER THE INPUT: true; the input reads as it did. -/
def layerHiddenSpec : ChangeSpec := { name := "layerHidden", fn := fun _ => fun
  | [d1, d2] => { results := [.lit (.bool true)], args := [d1, d2] }
  | _ => none }
def layerHiddenRow : OpenClaim := { program := "ytnciahoifehkdaadoor", sum := "74d1754b244cab9959a1c81b8c6a6e818858cc67f3583f93c19b9015d5573787", func := "layercake/layercakelaw3.LayerHidden", spec := "layerHidden", unfollowed := true, recurses := true, named := ["layercake/api.ErrBound", "layercake/api.ErrName", "layercake/api.ErrShape", "layercake/api.ErrNone"], plainKeys := false, apart := false, laid := [("layercake/api.ErrBound", laid_layercake_api_ErrBound), ("layercake/api.ErrShape", laid_layercake_api_ErrShape), ("layercake/api.ErrName", laid_layercake_api_ErrName), ("layercake/api.ErrNone", laid_layercake_api_ErrNone)] }
def LayerHiddenSaid : Prop := layerHiddenRow.holds Tryd.pinned (OpenSpec.ofChange layerHiddenSpec)

/-- ITS FALSE NEIGHBOUR: 'it returns false'. Refute it at one input. -/
def layerHiddenWrong : ChangeSpec := { name := "layerHidden", fn := fun _ => fun
  | [d1, d2] => { results := [.lit (.bool false)], args := [d1, d2] }
  | _ => none }
def LayerHiddenWrongFalsely : Prop := layerHiddenRow.holds Tryd.pinned (OpenSpec.ofChange layerHiddenWrong)

/-- 'layercakelaw3.PastGoes': WHATEVER THE INPUT: true; the input reads as it did. -/
def pastGoesSpec : ChangeSpec := { name := "pastGoes", fn := fun _ => fun
  | [d1, d2, d3] => { results := [.lit (.bool true)], args := [d1, d2, d3] }
  | _ => none }
def pastGoesRow : OpenClaim := { program := "ytnciahoifehkdaadoor", sum := "74d1754b244cab9959a1c81b8c6a6e818858cc67f3583f93c19b9015d5573787", func := "layercake/layercakelaw3.PastGoes", spec := "pastGoes", inPlace := ["internal/reflectlite.ValueOf", "(internal/reflectlite.Value).Type", "(internal/reflectlite.Value).IsNil", "internal/reflectlite.TypeOf", "(internal/reflectlite.Value).Elem", "(internal/reflectlite.Value).Set"], unfollowed := true, recurses := true, named := ["layercake/api.ErrBound", "layercake/api.ErrText", "layercake/api.ErrShape", "layercake/api.ErrSum", "layercake/api.ErrName", "layercake/api.ErrNone", "layercake/api.ErrColors", "layercake/api.ErrFull", "layercake/api.ErrPower", "errors.errorType"], plainKeys := false, apart := false, laid := [("errors.errorType", laid_errors_errorType), ("layercake/api.ErrText", laid_layercake_api_ErrText), ("layercake/api.ErrBound", laid_layercake_api_ErrBound), ("layercake/api.ErrShape", laid_layercake_api_ErrShape), ("layercake/api.ErrSum", laid_layercake_api_ErrSum), ("layercake/api.ErrName", laid_layercake_api_ErrName), ("layercake/api.ErrNone", laid_layercake_api_ErrNone), ("layercake/api.ErrColors", laid_layercake_api_ErrColors), ("layercake/api.ErrFull", laid_layercake_api_ErrFull), ("layercake/api.ErrPower", laid_layercake_api_ErrPower)] }
def PastGoesSaid : Prop := pastGoesRow.holds Tryd.pinned (OpenSpec.ofChange pastGoesSpec)

/-- ITS FALSE NEIGHBOUR: 'it returns false'. Refute it at one input. -/
def pastGoesWrong : ChangeSpec := { name := "pastGoes", fn := fun _ => fun
  | [d1, d2, d3] => { results := [.lit (.bool false)], args := [d1, d2, d3] }
  | _ => none }
def PastGoesWrongFalsely : Prop := pastGoesRow.holds Tryd.pinned (OpenSpec.ofChange pastGoesWrong)

/-- 'layercakelaw3.ColorsCount': WHATEVER THE INPUT: true; the input reads as it did. -/
def colorsCountSpec : ChangeSpec := { name := "colorsCount", fn := fun _ => fun
  | [d1, d2] => { results := [.lit (.bool true)], args := [d1, d2] }
  | _ => none }
def colorsCountRow : OpenClaim := { program := "ytnciahoifehkdaadoor", sum := "74d1754b244cab9959a1c81b8c6a6e818858cc67f3583f93c19b9015d5573787", func := "layercake/layercakelaw3.ColorsCount", spec := "colorsCount", inPlace := ["internal/reflectlite.ValueOf", "(internal/reflectlite.Value).Type", "(internal/reflectlite.Value).IsNil", "internal/reflectlite.TypeOf", "(internal/reflectlite.Value).Elem", "(internal/reflectlite.Value).Set"], unfollowed := true, recurses := true, named := ["layercake/api.ErrShape", "layercake/api.ErrBound", "layercake/api.ErrColors", "layercake/api.ErrText", "layercake/api.ErrSum", "layercake/api.ErrName", "layercake/api.ErrNone", "layercake/api.ErrFull", "layercake/api.ErrPower", "errors.errorType"], plainKeys := false, apart := false, laid := [("errors.errorType", laid_errors_errorType), ("layercake/api.ErrText", laid_layercake_api_ErrText), ("layercake/api.ErrBound", laid_layercake_api_ErrBound), ("layercake/api.ErrShape", laid_layercake_api_ErrShape), ("layercake/api.ErrSum", laid_layercake_api_ErrSum), ("layercake/api.ErrName", laid_layercake_api_ErrName), ("layercake/api.ErrNone", laid_layercake_api_ErrNone), ("layercake/api.ErrColors", laid_layercake_api_ErrColors), ("layercake/api.ErrFull", laid_layercake_api_ErrFull), ("layercake/api.ErrPower", laid_layercake_api_ErrPower)] }
def ColorsCountSaid : Prop := colorsCountRow.holds Tryd.pinned (OpenSpec.ofChange colorsCountSpec)

/-- ITS FALSE NEIGHBOUR: 'it returns false'. Refute it at one input. -/
def colorsCountWrong : ChangeSpec := { name := "colorsCount", fn := fun _ => fun
  | [d1, d2] => { results := [.lit (.bool false)], args := [d1, d2] }
  | _ => none }
def ColorsCountWrongFalsely : Prop := colorsCountRow.holds Tryd.pinned (OpenSpec.ofChange colorsCountWrong)

/-- 'layercakelaw3.ColorsMap': WHATEVER THE INPUT: true; the input reads as it did. -/
def colorsMapSpec : ChangeSpec := { name := "colorsMap", fn := fun _ => fun
  | [d1, d2] => { results := [.lit (.bool true)], args := [d1, d2] }
  | _ => none }
def colorsMapRow : OpenClaim := { program := "ytnciahoifehkdaadoor", sum := "74d1754b244cab9959a1c81b8c6a6e818858cc67f3583f93c19b9015d5573787", func := "layercake/layercakelaw3.ColorsMap", spec := "colorsMap", inPlace := ["internal/reflectlite.ValueOf", "(internal/reflectlite.Value).Type", "(internal/reflectlite.Value).IsNil", "internal/reflectlite.TypeOf", "(internal/reflectlite.Value).Elem", "(internal/reflectlite.Value).Set"], unfollowed := true, recurses := true, named := ["layercake/api.ErrShape", "layercake/api.ErrBound", "layercake/api.ErrText", "layercake/api.ErrSum", "layercake/api.ErrName", "layercake/api.ErrNone", "layercake/api.ErrColors", "layercake/api.ErrFull", "layercake/api.ErrPower", "errors.errorType"], plainKeys := false, apart := false, laid := [("errors.errorType", laid_errors_errorType), ("layercake/api.ErrText", laid_layercake_api_ErrText), ("layercake/api.ErrBound", laid_layercake_api_ErrBound), ("layercake/api.ErrShape", laid_layercake_api_ErrShape), ("layercake/api.ErrSum", laid_layercake_api_ErrSum), ("layercake/api.ErrName", laid_layercake_api_ErrName), ("layercake/api.ErrNone", laid_layercake_api_ErrNone), ("layercake/api.ErrColors", laid_layercake_api_ErrColors), ("layercake/api.ErrFull", laid_layercake_api_ErrFull), ("layercake/api.ErrPower", laid_layercake_api_ErrPower)] }
def ColorsMapSaid : Prop := colorsMapRow.holds Tryd.pinned (OpenSpec.ofChange colorsMapSpec)

/-- ITS FALSE NEIGHBOUR: 'it returns false'. Refute it at one input. -/
def colorsMapWrong : ChangeSpec := { name := "colorsMap", fn := fun _ => fun
  | [d1, d2] => { results := [.lit (.bool false)], args := [d1, d2] }
  | _ => none }
def ColorsMapWrongFalsely : Prop := colorsMapRow.holds Tryd.pinned (OpenSpec.ofChange colorsMapWrong)

/-- 'layercakelaw3.LayerFlat': WHATEVER THE INPUT: true; the input reads as it did. -/
def layerFlatSpec : ChangeSpec := { name := "layerFlat", fn := fun _ => fun
  | [d1, d2, d3] => { results := [.lit (.bool true)], args := [d1, d2, d3] }
  | _ => none }
def layerFlatRow : OpenClaim := { program := "ytnciahoifehkdaadoor", sum := "74d1754b244cab9959a1c81b8c6a6e818858cc67f3583f93c19b9015d5573787", func := "layercake/layercakelaw3.LayerFlat", spec := "layerFlat", inPlace := ["internal/reflectlite.ValueOf", "(internal/reflectlite.Value).Type", "(internal/reflectlite.Value).IsNil", "internal/reflectlite.TypeOf", "(internal/reflectlite.Value).Elem", "(internal/reflectlite.Value).Set"], unfollowed := true, recurses := true, named := ["layercake/api.ErrBound", "layercake/api.ErrName", "layercake/api.ErrShape", "layercake/api.ErrText", "layercake/api.ErrSum", "layercake/api.ErrNone", "layercake/api.ErrColors", "layercake/api.ErrFull", "layercake/api.ErrPower", "errors.errorType"], plainKeys := false, apart := false, laid := [("errors.errorType", laid_errors_errorType), ("layercake/api.ErrText", laid_layercake_api_ErrText), ("layercake/api.ErrBound", laid_layercake_api_ErrBound), ("layercake/api.ErrShape", laid_layercake_api_ErrShape), ("layercake/api.ErrSum", laid_layercake_api_ErrSum), ("layercake/api.ErrName", laid_layercake_api_ErrName), ("layercake/api.ErrNone", laid_layercake_api_ErrNone), ("layercake/api.ErrColors", laid_layercake_api_ErrColors), ("layercake/api.ErrFull", laid_layercake_api_ErrFull), ("layercake/api.ErrPower", laid_layercake_api_ErrPower)] }
def LayerFlatSaid : Prop := layerFlatRow.holds Tryd.pinned (OpenSpec.ofChange layerFlatSpec)

/-- ITS FALSE NEIGHBOUR: 'it returns false'. Refute it at one input. -/
def layerFlatWrong : ChangeSpec := { name := "layerFlat", fn := fun _ => fun
  | [d1, d2, d3] => { results := [.lit (.bool false)], args := [d1, d2, d3] }
  | _ => none }
def LayerFlatWrongFalsely : Prop := layerFlatRow.holds Tryd.pinned (OpenSpec.ofChange layerFlatWrong)

/-- 'layercakelaw3.TilesOf': WHATEVER THE INPUT: true; the input reads as it did. -/
def tilesOfSpec : ChangeSpec := { name := "tilesOf", fn := fun _ => fun
  | [d1, d2, d3] => { results := [.lit (.bool true)], args := [d1, d2, d3] }
  | _ => none }
def tilesOfRow : OpenClaim := { program := "ytnciahoifehkdaadoor", sum := "74d1754b244cab9959a1c81b8c6a6e818858cc67f3583f93c19b9015d5573787", func := "layercake/layercakelaw3.TilesOf", spec := "tilesOf", inPlace := ["internal/reflectlite.ValueOf", "(internal/reflectlite.Value).Type", "(internal/reflectlite.Value).IsNil", "internal/reflectlite.TypeOf", "(internal/reflectlite.Value).Elem", "(internal/reflectlite.Value).Set"], unfollowed := true, recurses := true, named := ["layercake/api.ErrShape", "layercake/api.ErrBound", "layercake/api.ErrText", "layercake/api.ErrSum", "layercake/api.ErrName", "layercake/api.ErrNone", "layercake/api.ErrColors", "layercake/api.ErrFull", "layercake/api.ErrPower", "errors.errorType"], plainKeys := false, apart := false, laid := [("errors.errorType", laid_errors_errorType), ("layercake/api.ErrText", laid_layercake_api_ErrText), ("layercake/api.ErrBound", laid_layercake_api_ErrBound), ("layercake/api.ErrShape", laid_layercake_api_ErrShape), ("layercake/api.ErrSum", laid_layercake_api_ErrSum), ("layercake/api.ErrName", laid_layercake_api_ErrName), ("layercake/api.ErrNone", laid_layercake_api_ErrNone), ("layercake/api.ErrColors", laid_layercake_api_ErrColors), ("layercake/api.ErrFull", laid_layercake_api_ErrFull), ("layercake/api.ErrPower", laid_layercake_api_ErrPower)] }
def TilesOfSaid : Prop := tilesOfRow.holds Tryd.pinned (OpenSpec.ofChange tilesOfSpec)

/-- ITS FALSE NEIGHBOUR: 'it returns false'. Refute it at one input. -/
def tilesOfWrong : ChangeSpec := { name := "tilesOf", fn := fun _ => fun
  | [d1, d2, d3] => { results := [.lit (.bool false)], args := [d1, d2, d3] }
  | _ => none }
def TilesOfWrongFalsely : Prop := tilesOfRow.holds Tryd.pinned (OpenSpec.ofChange tilesOfWrong)

/-- 'layercakelaw3.LayerMerged': WHATEVER THE INPUT: true; the input reads as it did. -/
def layerMergedSpec : ChangeSpec := { name := "layerMerged", fn := fun _ => fun
  | [d] => { results := [.lit (.bool true)], args := [d] }
  | _ => none }
def layerMergedRow : OpenClaim := { program := "ytnciahoifehkdaadoor", sum := "74d1754b244cab9959a1c81b8c6a6e818858cc67f3583f93c19b9015d5573787", func := "layercake/layercakelaw3.LayerMerged", spec := "layerMerged", inPlace := ["slices.overlaps[layercake/layer.Layer]"], unfollowed := true, recurses := true, named := ["layercake/api.ErrBound", "layercake/api.ErrName", "layercake/api.ErrShape", "layercake/api.ErrNone"], plainKeys := false, apart := false, laid := [("layercake/api.ErrBound", laid_layercake_api_ErrBound), ("layercake/api.ErrShape", laid_layercake_api_ErrShape), ("layercake/api.ErrName", laid_layercake_api_ErrName), ("layercake/api.ErrNone", laid_layercake_api_ErrNone)] }
def LayerMergedSaid : Prop := layerMergedRow.holds Tryd.pinned (OpenSpec.ofChange layerMergedSpec)

/-- ITS FALSE NEIGHBOUR: 'it returns false'. Refute it at one input. -/
def layerMergedWrong : ChangeSpec := { name := "layerMerged", fn := fun _ => fun
  | [d] => { results := [.lit (.bool false)], args := [d] }
  | _ => none }
def LayerMergedWrongFalsely : Prop := layerMergedRow.holds Tryd.pinned (OpenSpec.ofChange layerMergedWrong)

/-- 'layercakelaw3.GifTwice': WHATEVER THE INPUT: true; the input reads as it did. -/
def gifTwiceSpec : ChangeSpec := { name := "gifTwice", fn := fun _ => fun
  | [d1, d2] => { results := [.lit (.bool true)], args := [d1, d2] }
  | _ => none }
def gifTwiceRow : OpenClaim := { program := "ytnciahoifehkdaadoor", sum := "74d1754b244cab9959a1c81b8c6a6e818858cc67f3583f93c19b9015d5573787", func := "layercake/layercakelaw3.GifTwice", spec := "gifTwice", inPlace := ["internal/abi.NoEscape"], unfollowed := true, recurses := true, named := ["layercake/api.ErrColors", "layercake/api.ErrBound", "layercake/api.ErrShape", "layercake/api.ErrText"], plainKeys := false, apart := false, laid := [("layercake/api.ErrText", laid_layercake_api_ErrText), ("layercake/api.ErrBound", laid_layercake_api_ErrBound), ("layercake/api.ErrShape", laid_layercake_api_ErrShape), ("layercake/api.ErrColors", laid_layercake_api_ErrColors)] }
def GifTwiceSaid : Prop := gifTwiceRow.holds Tryd.pinned (OpenSpec.ofChange gifTwiceSpec)

/-- ITS FALSE NEIGHBOUR: 'it returns false'. Refute it at one input. -/
def gifTwiceWrong : ChangeSpec := { name := "gifTwice", fn := fun _ => fun
  | [d1, d2] => { results := [.lit (.bool false)], args := [d1, d2] }
  | _ => none }
def GifTwiceWrongFalsely : Prop := gifTwiceRow.holds Tryd.pinned (OpenSpec.ofChange gifTwiceWrong)

/-- 'layercakelaw3.TilesPaint': WHATEVER THE INPUT: true; the input reads as it did. -/
def tilesPaintSpec : ChangeSpec := { name := "tilesPaint", fn := fun _ => fun
  | [d1, d2] => { results := [.lit (.bool true)], args := [d1, d2] }
  | _ => none }
def tilesPaintRow : OpenClaim := { program := "ytnciahoifehkdaadoor", sum := "74d1754b244cab9959a1c81b8c6a6e818858cc67f3583f93c19b9015d5573787", func := "layercake/layercakelaw3.TilesPaint", spec := "tilesPaint", inPlace := ["internal/reflectlite.ValueOf", "(internal/reflectlite.Value).Type", "(internal/reflectlite.Value).IsNil", "internal/reflectlite.TypeOf", "(internal/reflectlite.Value).Elem", "(internal/reflectlite.Value).Set"], unfollowed := true, recurses := true, named := ["layercake/api.ErrShape", "layercake/api.ErrBound", "layercake/api.ErrText", "layercake/api.ErrSum", "layercake/api.ErrName", "layercake/api.ErrNone", "layercake/api.ErrColors", "layercake/api.ErrFull", "layercake/api.ErrPower", "errors.errorType"], plainKeys := false, apart := false, laid := [("errors.errorType", laid_errors_errorType), ("layercake/api.ErrText", laid_layercake_api_ErrText), ("layercake/api.ErrBound", laid_layercake_api_ErrBound), ("layercake/api.ErrShape", laid_layercake_api_ErrShape), ("layercake/api.ErrSum", laid_layercake_api_ErrSum), ("layercake/api.ErrName", laid_layercake_api_ErrName), ("layercake/api.ErrNone", laid_layercake_api_ErrNone), ("layercake/api.ErrColors", laid_layercake_api_ErrColors), ("layercake/api.ErrFull", laid_layercake_api_ErrFull), ("layercake/api.ErrPower", laid_layercake_api_ErrPower)] }
def TilesPaintSaid : Prop := tilesPaintRow.holds Tryd.pinned (OpenSpec.ofChange tilesPaintSpec)

/-- ITS FALSE NEIGHBOUR: 'it returns false'. Refute it at one input. -/
def tilesPaintWrong : ChangeSpec := { name := "tilesPaint", fn := fun _ => fun
  | [d1, d2] => { results := [.lit (.bool false)], args := [d1, d2] }
  | _ => none }
def TilesPaintWrongFalsely : Prop := tilesPaintRow.holds Tryd.pinned (OpenSpec.ofChange tilesPaintWrong)

/-- 'layercakelaw3.ColorsReduce': WHATEVER THE INPUT: true; the input reads as it did. -/
def colorsReduceSpec : ChangeSpec := { name := "colorsReduce", fn := fun _ => fun
  | [d1, d2] => { results := [.lit (.bool true)], args := [d1, d2] }
  | _ => none }
def colorsReduceRow : OpenClaim := { program := "ytnciahoifehkdaadoor", sum := "74d1754b244cab9959a1c81b8c6a6e818858cc67f3583f93c19b9015d5573787", func := "layercake/layercakelaw3.ColorsReduce", spec := "colorsReduce", inPlace := ["internal/reflectlite.ValueOf", "(internal/reflectlite.Value).Type", "(internal/reflectlite.Value).IsNil", "internal/reflectlite.TypeOf", "(internal/reflectlite.Value).Elem", "(internal/reflectlite.Value).Set"], unfollowed := true, recurses := true, named := ["layercake/api.ErrShape", "layercake/api.ErrBound", "layercake/api.ErrText", "layercake/api.ErrSum", "layercake/api.ErrName", "layercake/api.ErrNone", "layercake/api.ErrColors", "layercake/api.ErrFull", "layercake/api.ErrPower", "errors.errorType"], plainKeys := false, apart := false, laid := [("errors.errorType", laid_errors_errorType), ("layercake/api.ErrText", laid_layercake_api_ErrText), ("layercake/api.ErrBound", laid_layercake_api_ErrBound), ("layercake/api.ErrShape", laid_layercake_api_ErrShape), ("layercake/api.ErrSum", laid_layercake_api_ErrSum), ("layercake/api.ErrName", laid_layercake_api_ErrName), ("layercake/api.ErrNone", laid_layercake_api_ErrNone), ("layercake/api.ErrColors", laid_layercake_api_ErrColors), ("layercake/api.ErrFull", laid_layercake_api_ErrFull), ("layercake/api.ErrPower", laid_layercake_api_ErrPower)] }
def ColorsReduceSaid : Prop := colorsReduceRow.holds Tryd.pinned (OpenSpec.ofChange colorsReduceSpec)

/-- ITS FALSE NEIGHBOUR: 'it returns false'. Refute it at one input. -/
def colorsReduceWrong : ChangeSpec := { name := "colorsReduce", fn := fun _ => fun
  | [d1, d2] => { results := [.lit (.bool false)], args := [d1, d2] }
  | _ => none }
def ColorsReduceWrongFalsely : Prop := colorsReduceRow.holds Tryd.pinned (OpenSpec.ofChange colorsReduceWrong)

/-- 'layercakelaw3.GifWrites': WHATEVER THE INPUT: true; the input reads as it did. -/
def gifWritesSpec : ChangeSpec := { name := "gifWrites", fn := fun _ => fun
  | [d1, d2] => { results := [.lit (.bool true)], args := [d1, d2] }
  | _ => none }
def gifWritesRow : OpenClaim := { program := "ytnciahoifehkdaadoor", sum := "74d1754b244cab9959a1c81b8c6a6e818858cc67f3583f93c19b9015d5573787", func := "layercake/layercakelaw3.GifWrites", spec := "gifWrites", inPlace := ["internal/abi.NoEscape", "internal/reflectlite.ValueOf", "(internal/reflectlite.Value).Type", "(internal/reflectlite.Value).IsNil", "internal/reflectlite.TypeOf", "(internal/reflectlite.Value).Elem", "(internal/reflectlite.Value).Set"], unfollowed := true, recurses := true, named := ["layercake/api.ErrColors", "layercake/api.ErrBound", "layercake/api.ErrShape", "layercake/api.ErrText", "layercake/api.ErrSum", "layercake/api.ErrName", "layercake/api.ErrNone", "layercake/api.ErrFull", "layercake/api.ErrPower", "errors.errorType"], plainKeys := false, apart := false, laid := [("errors.errorType", laid_errors_errorType), ("layercake/api.ErrText", laid_layercake_api_ErrText), ("layercake/api.ErrBound", laid_layercake_api_ErrBound), ("layercake/api.ErrShape", laid_layercake_api_ErrShape), ("layercake/api.ErrSum", laid_layercake_api_ErrSum), ("layercake/api.ErrName", laid_layercake_api_ErrName), ("layercake/api.ErrNone", laid_layercake_api_ErrNone), ("layercake/api.ErrColors", laid_layercake_api_ErrColors), ("layercake/api.ErrFull", laid_layercake_api_ErrFull), ("layercake/api.ErrPower", laid_layercake_api_ErrPower)] }
def GifWritesSaid : Prop := gifWritesRow.holds Tryd.pinned (OpenSpec.ofChange gifWritesSpec)

/-- ITS FALSE NEIGHBOUR: 'it returns false'. Refute it at one input. -/
def gifWritesWrong : ChangeSpec := { name := "gifWrites", fn := fun _ => fun
  | [d1, d2] => { results := [.lit (.bool false)], args := [d1, d2] }
  | _ => none }
def GifWritesWrongFalsely : Prop := gifWritesRow.holds Tryd.pinned (OpenSpec.ofChange gifWritesWrong)

/-- 'layercakelaw3.GifReads': WHATEVER THE INPUT: true; the input reads as it did. -/
def gifReadsSpec : ChangeSpec := { name := "gifReads", fn := fun _ => fun
  | [d] => { results := [.lit (.bool true)], args := [d] }
  | _ => none }
def gifReadsRow : OpenClaim := { program := "ytnciahoifehkdaadoor", sum := "74d1754b244cab9959a1c81b8c6a6e818858cc67f3583f93c19b9015d5573787", func := "layercake/layercakelaw3.GifReads", spec := "gifReads", inPlace := ["internal/abi.NoEscape", "internal/reflectlite.ValueOf", "(internal/reflectlite.Value).Type", "(internal/reflectlite.Value).IsNil", "internal/reflectlite.TypeOf", "(internal/reflectlite.Value).Elem", "(internal/reflectlite.Value).Set"], unfollowed := true, recurses := true, named := ["layercake/api.ErrColors", "layercake/api.ErrBound", "layercake/api.ErrShape", "layercake/api.ErrText", "layercake/api.ErrSum", "layercake/api.ErrName", "layercake/api.ErrNone", "layercake/api.ErrFull", "layercake/api.ErrPower", "errors.errorType"], plainKeys := false, apart := false, laid := [("errors.errorType", laid_errors_errorType), ("layercake/api.ErrText", laid_layercake_api_ErrText), ("layercake/api.ErrBound", laid_layercake_api_ErrBound), ("layercake/api.ErrShape", laid_layercake_api_ErrShape), ("layercake/api.ErrSum", laid_layercake_api_ErrSum), ("layercake/api.ErrName", laid_layercake_api_ErrName), ("layercake/api.ErrNone", laid_layercake_api_ErrNone), ("layercake/api.ErrColors", laid_layercake_api_ErrColors), ("layercake/api.ErrFull", laid_layercake_api_ErrFull), ("layercake/api.ErrPower", laid_layercake_api_ErrPower)] }
def GifReadsSaid : Prop := gifReadsRow.holds Tryd.pinned (OpenSpec.ofChange gifReadsSpec)

/-- ITS FALSE NEIGHBOUR: 'it returns false'. Refute it at one input. -/
def gifReadsWrong : ChangeSpec := { name := "gifReads", fn := fun _ => fun
  | [d] => { results := [.lit (.bool false)], args := [d] }
  | _ => none }
def GifReadsWrongFalsely : Prop := gifReadsRow.holds Tryd.pinned (OpenSpec.ofChange gifReadsWrong)

/-- 'layercakelaw3.TilesTurn': WHATEVER THE INPUT: true; the input reads as it did. -/
def tilesTurnSpec : ChangeSpec := { name := "tilesTurn", fn := fun _ => fun
  | [d] => { results := [.lit (.bool true)], args := [d] }
  | _ => none }
def tilesTurnRow : OpenClaim := { program := "ytnciahoifehkdaadoor", sum := "74d1754b244cab9959a1c81b8c6a6e818858cc67f3583f93c19b9015d5573787", func := "layercake/layercakelaw3.TilesTurn", spec := "tilesTurn", inPlace := ["internal/abi.NoEscape"], unfollowed := true, recurses := true, named := ["layercake/api.ErrShape", "layercake/api.ErrBound", "layercake/inflate.Lens", "layercake/inflate.LenBits", "layercake/inflate.Dists", "layercake/inflate.DistBits", "layercake/inflate.Order"], plainKeys := false, apart := false, laid := [("layercake/api.ErrBound", laid_layercake_api_ErrBound), ("layercake/api.ErrShape", laid_layercake_api_ErrShape), ("layercake/inflate.Lens", laid_layercake_inflate_Lens), ("layercake/inflate.LenBits", laid_layercake_inflate_LenBits), ("layercake/inflate.Dists", laid_layercake_inflate_Dists), ("layercake/inflate.DistBits", laid_layercake_inflate_DistBits), ("layercake/inflate.Order", laid_layercake_inflate_Order)] }
def TilesTurnSaid : Prop := tilesTurnRow.holds Tryd.pinned (OpenSpec.ofChange tilesTurnSpec)

/-- ITS FALSE NEIGHBOUR: 'it returns false'. Refute it at one input. -/
def tilesTurnWrong : ChangeSpec := { name := "tilesTurn", fn := fun _ => fun
  | [d] => { results := [.lit (.bool false)], args := [d] }
  | _ => none }
def TilesTurnWrongFalsely : Prop := tilesTurnRow.holds Tryd.pinned (OpenSpec.ofChange tilesTurnWrong)

/- THE SECOND FORM. 'bulk': how many values and letters a reading holds, each counted each time it is reached (what is shared counts as often as it is met; a slice's spare places count too). A statement '..UptoSaid' is the law's where the arguments, and the package variables that the reading takes, are together of bulk at most 1048576: NARROWER than '..Said'. Prove '..Said' where nothing that the law and all that it calls make is longer than what came in: it says more and counts as full. Else prove '..UptoSaid'. A law counts once. -/
mutual
def uptoBulk {H : Type} : DataW H → Nat
  | .lit (.string bytes) => bytes.length + 1
  | .lit _ => 1
  | .nil => 1
  | .ptr d => uptoBulk d + 1
  | .slice elems spare => uptoBulkAll elems + uptoBulkAll spare + 1
  | .agg parts => uptoBulkAll parts + 1
  | .iface _ d => uptoBulk d + 1
  | .map entries => uptoBulkEntries entries + 1
  | .held _ => 1
def uptoBulkAll {H : Type} : List (DataW H) → Nat
  | [] => 0
  | d :: r => uptoBulk d + uptoBulkAll r
def uptoBulkEntries {H : Type} : List (Lit × DataW H) → Nat
  | [] => 0
  | x :: r => uptoBulkEntry x + uptoBulkEntries r
def uptoBulkEntry {H : Type} : Lit × DataW H → Nat
  | (.string bytes, d) => bytes.length + uptoBulk d + 1
  | (_, d) => uptoBulk d + 1
 end
def uptoSmall : (H : Type) → List (DataW H) → Bool := fun _ ds => decide (uptoBulkAll ds ≤ 1048576)
def OpenSpec.upto (s : _root_.Go.ChangeSpec) : _root_.Go.OpenSpec := { _root_.Go.OpenSpec.ofChange s with cond := some uptoSmall }

/-- 'layercakelaw3.ColorsNearer', WHERE WHAT IT READS IS OF BULK AT MOST 1048576: true; the input reads as it did. -/
def colorsNearerUptoRow : OpenClaim := { program := "ytnciahoifehkdaadoor", sum := "74d1754b244cab9959a1c81b8c6a6e818858cc67f3583f93c19b9015d5573787", func := "layercake/layercakelaw3.ColorsNearer", spec := "colorsNearer", unfollowed := true, recurses := true, named := ["layercake/api.ErrShape", "layercake/api.ErrBound"], plainKeys := false, apart := false, laid := [("layercake/api.ErrBound", laid_layercake_api_ErrBound), ("layercake/api.ErrShape", laid_layercake_api_ErrShape)], narrowed := true }
def ColorsNearerUptoSaid : Prop := colorsNearerUptoRow.holds Tryd.pinned (OpenSpec.upto colorsNearerSpec)

/-- 'layercakelaw3.LayerHidden', WHERE WHAT IT READS IS OF BULK AT MOST 1048576: true; the input reads as it did. -/
def layerHiddenUptoRow : OpenClaim := { program := "ytnciahoifehkdaadoor", sum := "74d1754b244cab9959a1c81b8c6a6e818858cc67f3583f93c19b9015d5573787", func := "layercake/layercakelaw3.LayerHidden", spec := "layerHidden", unfollowed := true, recurses := true, named := ["layercake/api.ErrBound", "layercake/api.ErrName", "layercake/api.ErrShape", "layercake/api.ErrNone"], plainKeys := false, apart := false, laid := [("layercake/api.ErrBound", laid_layercake_api_ErrBound), ("layercake/api.ErrShape", laid_layercake_api_ErrShape), ("layercake/api.ErrName", laid_layercake_api_ErrName), ("layercake/api.ErrNone", laid_layercake_api_ErrNone)], narrowed := true }
def LayerHiddenUptoSaid : Prop := layerHiddenUptoRow.holds Tryd.pinned (OpenSpec.upto layerHiddenSpec)

/-- 'layercakelaw3.PastGoes', WHERE WHAT IT READS IS OF BULK AT MOST 1048576: true; the input reads as it did. -/
def pastGoesUptoRow : OpenClaim := { program := "ytnciahoifehkdaadoor", sum := "74d1754b244cab9959a1c81b8c6a6e818858cc67f3583f93c19b9015d5573787", func := "layercake/layercakelaw3.PastGoes", spec := "pastGoes", inPlace := ["internal/reflectlite.ValueOf", "(internal/reflectlite.Value).Type", "(internal/reflectlite.Value).IsNil", "internal/reflectlite.TypeOf", "(internal/reflectlite.Value).Elem", "(internal/reflectlite.Value).Set"], unfollowed := true, recurses := true, named := ["layercake/api.ErrBound", "layercake/api.ErrText", "layercake/api.ErrShape", "layercake/api.ErrSum", "layercake/api.ErrName", "layercake/api.ErrNone", "layercake/api.ErrColors", "layercake/api.ErrFull", "layercake/api.ErrPower", "errors.errorType"], plainKeys := false, apart := false, laid := [("errors.errorType", laid_errors_errorType), ("layercake/api.ErrText", laid_layercake_api_ErrText), ("layercake/api.ErrBound", laid_layercake_api_ErrBound), ("layercake/api.ErrShape", laid_layercake_api_ErrShape), ("layercake/api.ErrSum", laid_layercake_api_ErrSum), ("layercake/api.ErrName", laid_layercake_api_ErrName), ("layercake/api.ErrNone", laid_layercake_api_ErrNone), ("layercake/api.ErrColors", laid_layercake_api_ErrColors), ("layercake/api.ErrFull", laid_layercake_api_ErrFull), ("layercake/api.ErrPower", laid_layercake_api_ErrPower)], narrowed := true }
def PastGoesUptoSaid : Prop := pastGoesUptoRow.holds Tryd.pinned (OpenSpec.upto pastGoesSpec)

/-- 'layercakelaw3.ColorsCount', WHERE WHAT IT READS IS OF BULK AT MOST 1048576: true; the input reads as it did. -/
def colorsCountUptoRow : OpenClaim := { program := "ytnciahoifehkdaadoor", sum := "74d1754b244cab9959a1c81b8c6a6e818858cc67f3583f93c19b9015d5573787", func := "layercake/layercakelaw3.ColorsCount", spec := "colorsCount", inPlace := ["internal/reflectlite.ValueOf", "(internal/reflectlite.Value).Type", "(internal/reflectlite.Value).IsNil", "internal/reflectlite.TypeOf", "(internal/reflectlite.Value).Elem", "(internal/reflectlite.Value).Set"], unfollowed := true, recurses := true, named := ["layercake/api.ErrShape", "layercake/api.ErrBound", "layercake/api.ErrColors", "layercake/api.ErrText", "layercake/api.ErrSum", "layercake/api.ErrName", "layercake/api.ErrNone", "layercake/api.ErrFull", "layercake/api.ErrPower", "errors.errorType"], plainKeys := false, apart := false, laid := [("errors.errorType", laid_errors_errorType), ("layercake/api.ErrText", laid_layercake_api_ErrText), ("layercake/api.ErrBound", laid_layercake_api_ErrBound), ("layercake/api.ErrShape", laid_layercake_api_ErrShape), ("layercake/api.ErrSum", laid_layercake_api_ErrSum), ("layercake/api.ErrName", laid_layercake_api_ErrName), ("layercake/api.ErrNone", laid_layercake_api_ErrNone), ("layercake/api.ErrColors", laid_layercake_api_ErrColors), ("layercake/api.ErrFull", laid_layercake_api_ErrFull), ("layercake/api.ErrPower", laid_layercake_api_ErrPower)], narrowed := true }
def ColorsCountUptoSaid : Prop := colorsCountUptoRow.holds Tryd.pinned (OpenSpec.upto colorsCountSpec)

/-- 'layercakelaw3.ColorsMap', WHERE WHAT IT READS IS OF BULK AT MOST 1048576: true; the input reads as it did. -/
def colorsMapUptoRow : OpenClaim := { program := "ytnciahoifehkdaadoor", sum := "74d1754b244cab9959a1c81b8c6a6e818858cc67f3583f93c19b9015d5573787", func := "layercake/layercakelaw3.ColorsMap", spec := "colorsMap", inPlace := ["internal/reflectlite.ValueOf", "(internal/reflectlite.Value).Type", "(internal/reflectlite.Value).IsNil", "internal/reflectlite.TypeOf", "(internal/reflectlite.Value).Elem", "(internal/reflectlite.Value).Set"], unfollowed := true, recurses := true, named := ["layercake/api.ErrShape", "layercake/api.ErrBound", "layercake/api.ErrText", "layercake/api.ErrSum", "layercake/api.ErrName", "layercake/api.ErrNone", "layercake/api.ErrColors", "layercake/api.ErrFull", "layercake/api.ErrPower", "errors.errorType"], plainKeys := false, apart := false, laid := [("errors.errorType", laid_errors_errorType), ("layercake/api.ErrText", laid_layercake_api_ErrText), ("layercake/api.ErrBound", laid_layercake_api_ErrBound), ("layercake/api.ErrShape", laid_layercake_api_ErrShape), ("layercake/api.ErrSum", laid_layercake_api_ErrSum), ("layercake/api.ErrName", laid_layercake_api_ErrName), ("layercake/api.ErrNone", laid_layercake_api_ErrNone), ("layercake/api.ErrColors", laid_layercake_api_ErrColors), ("layercake/api.ErrFull", laid_layercake_api_ErrFull), ("layercake/api.ErrPower", laid_layercake_api_ErrPower)], narrowed := true }
def ColorsMapUptoSaid : Prop := colorsMapUptoRow.holds Tryd.pinned (OpenSpec.upto colorsMapSpec)

/-- 'layercakelaw3.LayerFlat', WHERE WHAT IT READS IS OF BULK AT MOST 1048576: true; the input reads as it did. -/
def layerFlatUptoRow : OpenClaim := { program := "ytnciahoifehkdaadoor", sum := "74d1754b244cab9959a1c81b8c6a6e818858cc67f3583f93c19b9015d5573787", func := "layercake/layercakelaw3.LayerFlat", spec := "layerFlat", inPlace := ["internal/reflectlite.ValueOf", "(internal/reflectlite.Value).Type", "(internal/reflectlite.Value).IsNil", "internal/reflectlite.TypeOf", "(internal/reflectlite.Value).Elem", "(internal/reflectlite.Value).Set"], unfollowed := true, recurses := true, named := ["layercake/api.ErrBound", "layercake/api.ErrName", "layercake/api.ErrShape", "layercake/api.ErrText", "layercake/api.ErrSum", "layercake/api.ErrNone", "layercake/api.ErrColors", "layercake/api.ErrFull", "layercake/api.ErrPower", "errors.errorType"], plainKeys := false, apart := false, laid := [("errors.errorType", laid_errors_errorType), ("layercake/api.ErrText", laid_layercake_api_ErrText), ("layercake/api.ErrBound", laid_layercake_api_ErrBound), ("layercake/api.ErrShape", laid_layercake_api_ErrShape), ("layercake/api.ErrSum", laid_layercake_api_ErrSum), ("layercake/api.ErrName", laid_layercake_api_ErrName), ("layercake/api.ErrNone", laid_layercake_api_ErrNone), ("layercake/api.ErrColors", laid_layercake_api_ErrColors), ("layercake/api.ErrFull", laid_layercake_api_ErrFull), ("layercake/api.ErrPower", laid_layercake_api_ErrPower)], narrowed := true }
def LayerFlatUptoSaid : Prop := layerFlatUptoRow.holds Tryd.pinned (OpenSpec.upto layerFlatSpec)

/-- 'layercakelaw3.TilesOf', WHERE WHAT IT READS IS OF BULK AT MOST 1048576: true; the input reads as it did. -/
def tilesOfUptoRow : OpenClaim := { program := "ytnciahoifehkdaadoor", sum := "74d1754b244cab9959a1c81b8c6a6e818858cc67f3583f93c19b9015d5573787", func := "layercake/layercakelaw3.TilesOf", spec := "tilesOf", inPlace := ["internal/reflectlite.ValueOf", "(internal/reflectlite.Value).Type", "(internal/reflectlite.Value).IsNil", "internal/reflectlite.TypeOf", "(internal/reflectlite.Value).Elem", "(internal/reflectlite.Value).Set"], unfollowed := true, recurses := true, named := ["layercake/api.ErrShape", "layercake/api.ErrBound", "layercake/api.ErrText", "layercake/api.ErrSum", "layercake/api.ErrName", "layercake/api.ErrNone", "layercake/api.ErrColors", "layercake/api.ErrFull", "layercake/api.ErrPower", "errors.errorType"], plainKeys := false, apart := false, laid := [("errors.errorType", laid_errors_errorType), ("layercake/api.ErrText", laid_layercake_api_ErrText), ("layercake/api.ErrBound", laid_layercake_api_ErrBound), ("layercake/api.ErrShape", laid_layercake_api_ErrShape), ("layercake/api.ErrSum", laid_layercake_api_ErrSum), ("layercake/api.ErrName", laid_layercake_api_ErrName), ("layercake/api.ErrNone", laid_layercake_api_ErrNone), ("layercake/api.ErrColors", laid_layercake_api_ErrColors), ("layercake/api.ErrFull", laid_layercake_api_ErrFull), ("layercake/api.ErrPower", laid_layercake_api_ErrPower)], narrowed := true }
def TilesOfUptoSaid : Prop := tilesOfUptoRow.holds Tryd.pinned (OpenSpec.upto tilesOfSpec)

/-- 'layercakelaw3.LayerMerged', WHERE WHAT IT READS IS OF BULK AT MOST 1048576: true; the input reads as it did. -/
def layerMergedUptoRow : OpenClaim := { program := "ytnciahoifehkdaadoor", sum := "74d1754b244cab9959a1c81b8c6a6e818858cc67f3583f93c19b9015d5573787", func := "layercake/layercakelaw3.LayerMerged", spec := "layerMerged", inPlace := ["slices.overlaps[layercake/layer.Layer]"], unfollowed := true, recurses := true, named := ["layercake/api.ErrBound", "layercake/api.ErrName", "layercake/api.ErrShape", "layercake/api.ErrNone"], plainKeys := false, apart := false, laid := [("layercake/api.ErrBound", laid_layercake_api_ErrBound), ("layercake/api.ErrShape", laid_layercake_api_ErrShape), ("layercake/api.ErrName", laid_layercake_api_ErrName), ("layercake/api.ErrNone", laid_layercake_api_ErrNone)], narrowed := true }
def LayerMergedUptoSaid : Prop := layerMergedUptoRow.holds Tryd.pinned (OpenSpec.upto layerMergedSpec)

/-- 'layercakelaw3.GifTwice', WHERE WHAT IT READS IS OF BULK AT MOST 1048576: true; the input reads as it did. -/
def gifTwiceUptoRow : OpenClaim := { program := "ytnciahoifehkdaadoor", sum := "74d1754b244cab9959a1c81b8c6a6e818858cc67f3583f93c19b9015d5573787", func := "layercake/layercakelaw3.GifTwice", spec := "gifTwice", inPlace := ["internal/abi.NoEscape"], unfollowed := true, recurses := true, named := ["layercake/api.ErrColors", "layercake/api.ErrBound", "layercake/api.ErrShape", "layercake/api.ErrText"], plainKeys := false, apart := false, laid := [("layercake/api.ErrText", laid_layercake_api_ErrText), ("layercake/api.ErrBound", laid_layercake_api_ErrBound), ("layercake/api.ErrShape", laid_layercake_api_ErrShape), ("layercake/api.ErrColors", laid_layercake_api_ErrColors)], narrowed := true }
def GifTwiceUptoSaid : Prop := gifTwiceUptoRow.holds Tryd.pinned (OpenSpec.upto gifTwiceSpec)

/-- 'layercakelaw3.TilesPaint', WHERE WHAT IT READS IS OF BULK AT MOST 1048576: true; the input reads as it did. -/
def tilesPaintUptoRow : OpenClaim := { program := "ytnciahoifehkdaadoor", sum := "74d1754b244cab9959a1c81b8c6a6e818858cc67f3583f93c19b9015d5573787", func := "layercake/layercakelaw3.TilesPaint", spec := "tilesPaint", inPlace := ["internal/reflectlite.ValueOf", "(internal/reflectlite.Value).Type", "(internal/reflectlite.Value).IsNil", "internal/reflectlite.TypeOf", "(internal/reflectlite.Value).Elem", "(internal/reflectlite.Value).Set"], unfollowed := true, recurses := true, named := ["layercake/api.ErrShape", "layercake/api.ErrBound", "layercake/api.ErrText", "layercake/api.ErrSum", "layercake/api.ErrName", "layercake/api.ErrNone", "layercake/api.ErrColors", "layercake/api.ErrFull", "layercake/api.ErrPower", "errors.errorType"], plainKeys := false, apart := false, laid := [("errors.errorType", laid_errors_errorType), ("layercake/api.ErrText", laid_layercake_api_ErrText), ("layercake/api.ErrBound", laid_layercake_api_ErrBound), ("layercake/api.ErrShape", laid_layercake_api_ErrShape), ("layercake/api.ErrSum", laid_layercake_api_ErrSum), ("layercake/api.ErrName", laid_layercake_api_ErrName), ("layercake/api.ErrNone", laid_layercake_api_ErrNone), ("layercake/api.ErrColors", laid_layercake_api_ErrColors), ("layercake/api.ErrFull", laid_layercake_api_ErrFull), ("layercake/api.ErrPower", laid_layercake_api_ErrPower)], narrowed := true }
def TilesPaintUptoSaid : Prop := tilesPaintUptoRow.holds Tryd.pinned (OpenSpec.upto tilesPaintSpec)

/-- 'layercakelaw3.ColorsReduce', WHERE WHAT IT READS IS OF BULK AT MOST 1048576: true; the input reads as it did. -/
def colorsReduceUptoRow : OpenClaim := { program := "ytnciahoifehkdaadoor", sum := "74d1754b244cab9959a1c81b8c6a6e818858cc67f3583f93c19b9015d5573787", func := "layercake/layercakelaw3.ColorsReduce", spec := "colorsReduce", inPlace := ["internal/reflectlite.ValueOf", "(internal/reflectlite.Value).Type", "(internal/reflectlite.Value).IsNil", "internal/reflectlite.TypeOf", "(internal/reflectlite.Value).Elem", "(internal/reflectlite.Value).Set"], unfollowed := true, recurses := true, named := ["layercake/api.ErrShape", "layercake/api.ErrBound", "layercake/api.ErrText", "layercake/api.ErrSum", "layercake/api.ErrName", "layercake/api.ErrNone", "layercake/api.ErrColors", "layercake/api.ErrFull", "layercake/api.ErrPower", "errors.errorType"], plainKeys := false, apart := false, laid := [("errors.errorType", laid_errors_errorType), ("layercake/api.ErrText", laid_layercake_api_ErrText), ("layercake/api.ErrBound", laid_layercake_api_ErrBound), ("layercake/api.ErrShape", laid_layercake_api_ErrShape), ("layercake/api.ErrSum", laid_layercake_api_ErrSum), ("layercake/api.ErrName", laid_layercake_api_ErrName), ("layercake/api.ErrNone", laid_layercake_api_ErrNone), ("layercake/api.ErrColors", laid_layercake_api_ErrColors), ("layercake/api.ErrFull", laid_layercake_api_ErrFull), ("layercake/api.ErrPower", laid_layercake_api_ErrPower)], narrowed := true }
def ColorsReduceUptoSaid : Prop := colorsReduceUptoRow.holds Tryd.pinned (OpenSpec.upto colorsReduceSpec)

/-- 'layercakelaw3.GifWrites', WHERE WHAT IT READS IS OF BULK AT MOST 1048576: true; the input reads as it did. -/
def gifWritesUptoRow : OpenClaim := { program := "ytnciahoifehkdaadoor", sum := "74d1754b244cab9959a1c81b8c6a6e818858cc67f3583f93c19b9015d5573787", func := "layercake/layercakelaw3.GifWrites", spec := "gifWrites", inPlace := ["internal/abi.NoEscape", "internal/reflectlite.ValueOf", "(internal/reflectlite.Value).Type", "(internal/reflectlite.Value).IsNil", "internal/reflectlite.TypeOf", "(internal/reflectlite.Value).Elem", "(internal/reflectlite.Value).Set"], unfollowed := true, recurses := true, named := ["layercake/api.ErrColors", "layercake/api.ErrBound", "layercake/api.ErrShape", "layercake/api.ErrText", "layercake/api.ErrSum", "layercake/api.ErrName", "layercake/api.ErrNone", "layercake/api.ErrFull", "layercake/api.ErrPower", "errors.errorType"], plainKeys := false, apart := false, laid := [("errors.errorType", laid_errors_errorType), ("layercake/api.ErrText", laid_layercake_api_ErrText), ("layercake/api.ErrBound", laid_layercake_api_ErrBound), ("layercake/api.ErrShape", laid_layercake_api_ErrShape), ("layercake/api.ErrSum", laid_layercake_api_ErrSum), ("layercake/api.ErrName", laid_layercake_api_ErrName), ("layercake/api.ErrNone", laid_layercake_api_ErrNone), ("layercake/api.ErrColors", laid_layercake_api_ErrColors), ("layercake/api.ErrFull", laid_layercake_api_ErrFull), ("layercake/api.ErrPower", laid_layercake_api_ErrPower)], narrowed := true }
def GifWritesUptoSaid : Prop := gifWritesUptoRow.holds Tryd.pinned (OpenSpec.upto gifWritesSpec)

/-- 'layercakelaw3.GifReads', WHERE WHAT IT READS IS OF BULK AT MOST 1048576: true; the input reads as it did. -/
def gifReadsUptoRow : OpenClaim := { program := "ytnciahoifehkdaadoor", sum := "74d1754b244cab9959a1c81b8c6a6e818858cc67f3583f93c19b9015d5573787", func := "layercake/layercakelaw3.GifReads", spec := "gifReads", inPlace := ["internal/abi.NoEscape", "internal/reflectlite.ValueOf", "(internal/reflectlite.Value).Type", "(internal/reflectlite.Value).IsNil", "internal/reflectlite.TypeOf", "(internal/reflectlite.Value).Elem", "(internal/reflectlite.Value).Set"], unfollowed := true, recurses := true, named := ["layercake/api.ErrColors", "layercake/api.ErrBound", "layercake/api.ErrShape", "layercake/api.ErrText", "layercake/api.ErrSum", "layercake/api.ErrName", "layercake/api.ErrNone", "layercake/api.ErrFull", "layercake/api.ErrPower", "errors.errorType"], plainKeys := false, apart := false, laid := [("errors.errorType", laid_errors_errorType), ("layercake/api.ErrText", laid_layercake_api_ErrText), ("layercake/api.ErrBound", laid_layercake_api_ErrBound), ("layercake/api.ErrShape", laid_layercake_api_ErrShape), ("layercake/api.ErrSum", laid_layercake_api_ErrSum), ("layercake/api.ErrName", laid_layercake_api_ErrName), ("layercake/api.ErrNone", laid_layercake_api_ErrNone), ("layercake/api.ErrColors", laid_layercake_api_ErrColors), ("layercake/api.ErrFull", laid_layercake_api_ErrFull), ("layercake/api.ErrPower", laid_layercake_api_ErrPower)], narrowed := true }
def GifReadsUptoSaid : Prop := gifReadsUptoRow.holds Tryd.pinned (OpenSpec.upto gifReadsSpec)

/-- 'layercakelaw3.TilesTurn', WHERE WHAT IT READS IS OF BULK AT MOST 1048576: true; the input reads as it did. -/
def tilesTurnUptoRow : OpenClaim := { program := "ytnciahoifehkdaadoor", sum := "74d1754b244cab9959a1c81b8c6a6e818858cc67f3583f93c19b9015d5573787", func := "layercake/layercakelaw3.TilesTurn", spec := "tilesTurn", inPlace := ["internal/abi.NoEscape"], unfollowed := true, recurses := true, named := ["layercake/api.ErrShape", "layercake/api.ErrBound", "layercake/inflate.Lens", "layercake/inflate.LenBits", "layercake/inflate.Dists", "layercake/inflate.DistBits", "layercake/inflate.Order"], plainKeys := false, apart := false, laid := [("layercake/api.ErrBound", laid_layercake_api_ErrBound), ("layercake/api.ErrShape", laid_layercake_api_ErrShape), ("layercake/inflate.Lens", laid_layercake_inflate_Lens), ("layercake/inflate.LenBits", laid_layercake_inflate_LenBits), ("layercake/inflate.Dists", laid_layercake_inflate_Dists), ("layercake/inflate.DistBits", laid_layercake_inflate_DistBits), ("layercake/inflate.Order", laid_layercake_inflate_Order)], narrowed := true }
def TilesTurnUptoSaid : Prop := tilesTurnUptoRow.holds Tryd.pinned (OpenSpec.upto tilesTurnSpec)

end Rows
end Go.Proofs.YtnciahoifehkdaaDoor
