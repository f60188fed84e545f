/-
  No cell of these rows narrows 'for every input' (looked for: loops, veiled, ifaces, maps, wideKeys, modest, calm, conditions, laid).
  DERIVED. THE GIVEN ROWS OF THIS SEAT. 4 by the template 'for every input the law returns true; each argument reads behind the call as it read before'; 0 by the template 'total and deterministic' (their statements: YtimngnabpolgkaaGreatTotals.lean).
  GIVEN WITH THE SEED: the statements are not yours to turn. If you find one false, say at which input.
  Laid BY PROGRAM, IN A SANDBOX (cutbox-rows.mjs): the forced cells as the released guide's own fill.sh prints them over the translation d9823c12090de6d3… (all of the seat's roots in one cut). By AI agents, Wed Nov 11 2026. No macro, syntax, notation, axiom, sorry.
-/
import Derived.Test.YtimngnabpolgkaaGreatChecked
import GoSem.Claim
import GoSem.ClaimJoined
import GoSem.ClaimMapViews
import Derived.JoinedTies
import Derived.KernelRfl
namespace Go.Proofs.YtimngnabpolgkaaGreat
/- THE CELL 'sum', in the pinned program and in every row, IS THE sha256 OF THE DUMP (.gsa) THAT YtimngnabpolgkaaGreatProg.lean LOADS. Nothing in Lean hashes anything: it is a label: what it is worth is what the hold of that sum in a sandbox is worth. -/
noncomputable def Tryz.pinned : Pinned := { name := "ytimngnabpolgkaagreat", sum := "d9823c12090de6d31cd457eb8a830a23a8642dda465710b5e9d98df5b1459170", checked := Tryz.checked }
namespace Rows
def none {H : Type} : Left H := { results := [], args := [] }

/-- 'quernlaw22.StoreNil': WHATEVER THE INPUT: true; the input reads as it did. -/
def storeNilSpec : ChangeSpec := { name := "storeNil", fn := fun _ => fun
  | [d] => { results := [.lit (.bool true)], args := [d] }
  | _ => none }
def storeNilRow : OpenClaim := { program := "ytimngnabpolgkaagreat", sum := "d9823c12090de6d31cd457eb8a830a23a8642dda465710b5e9d98df5b1459170", func := "quern/quernlaw22.StoreNil", spec := "storeNil", inPlace := ["maps.clone"], unfollowed := true, recurses := true, plainKeys := false, apart := false }
def StoreNilSaid : Prop := storeNilRow.holds Tryz.pinned (OpenSpec.ofChange storeNilSpec)

/-- ITS FALSE NEIGHBOUR: 'it returns false'. Refute it at one input. -/
def storeNilWrong : ChangeSpec := { name := "storeNil", fn := fun _ => fun
  | [d] => { results := [.lit (.bool false)], args := [d] }
  | _ => none }
def StoreNilWrongFalsely : Prop := storeNilRow.holds Tryz.pinned (OpenSpec.ofChange storeNilWrong)

/-- 'quernlaw23.BlocksNil': WHATEVER THE INPUT: true; the input reads as it did. -/
def blocksNilSpec : ChangeSpec := { name := "blocksNil", fn := fun _ => fun
  | [d] => { results := [.lit (.bool true)], args := [d] }
  | _ => none }
def blocksNilRow : OpenClaim := { program := "ytimngnabpolgkaagreat", sum := "d9823c12090de6d31cd457eb8a830a23a8642dda465710b5e9d98df5b1459170", func := "quern/quernlaw23.BlocksNil", spec := "blocksNil", inPlace := ["maps.clone"], unfollowed := true, recurses := true, plainKeys := false, apart := false }
def BlocksNilSaid : Prop := blocksNilRow.holds Tryz.pinned (OpenSpec.ofChange blocksNilSpec)

/-- ITS FALSE NEIGHBOUR: 'it returns false'. Refute it at one input. -/
def blocksNilWrong : ChangeSpec := { name := "blocksNil", fn := fun _ => fun
  | [d] => { results := [.lit (.bool false)], args := [d] }
  | _ => none }
def BlocksNilWrongFalsely : Prop := blocksNilRow.holds Tryz.pinned (OpenSpec.ofChange blocksNilWrong)

/-- 'quernlaw24.InodesNil': WHATEVER THE INPUT: true; the input reads as it did. -/
def inodesNilSpec : ChangeSpec := { name := "inodesNil", fn := fun _ => fun
  | [d1, d2] => { results := [.lit (.bool true)], args := [d1, d2] }
  | _ => none }
def inodesNilRow : OpenClaim := { program := "ytimngnabpolgkaagreat", sum := "d9823c12090de6d31cd457eb8a830a23a8642dda465710b5e9d98df5b1459170", func := "quern/quernlaw24.InodesNil", spec := "inodesNil", inPlace := ["maps.clone"], unfollowed := true, recurses := true, plainKeys := false, apart := false }
def InodesNilSaid : Prop := inodesNilRow.holds Tryz.pinned (OpenSpec.ofChange inodesNilSpec)

/-- ITS FALSE NEIGHBOUR: 'it returns false'. Refute it at one input. -/
def inodesNilWrong : ChangeSpec := { name := "inodesNil", fn := fun _ => fun
  | [d1, d2] => { results := [.lit (.bool false)], args := [d1, d2] }
  | _ => none }
def InodesNilWrongFalsely : Prop := inodesNilRow.holds Tryz.pinned (OpenSpec.ofChange inodesNilWrong)

/-- 'quernlaw28.DirsNil': WHATEVER THE INPUT: true; the input reads as it did. -/
def dirsNilSpec : ChangeSpec := { name := "dirsNil", fn := fun _ => fun
  | [d] => { results := [.lit (.bool true)], args := [d] }
  | _ => none }
def dirsNilRow : OpenClaim := { program := "ytimngnabpolgkaagreat", sum := "d9823c12090de6d31cd457eb8a830a23a8642dda465710b5e9d98df5b1459170", func := "quern/quernlaw28.DirsNil", spec := "dirsNil", inPlace := ["internal/bytealg.IndexByteString", "internal/bytealg.IndexString", "maps.clone"], unfollowed := true, recurses := true, named := ["internal/bytealg.MaxLen"], plainKeys := false, apart := false }
def DirsNilSaid : Prop := dirsNilRow.holds Tryz.pinned (OpenSpec.ofChange dirsNilSpec)

/-- ITS FALSE NEIGHBOUR: 'it returns false'. Refute it at one input. -/
def dirsNilWrong : ChangeSpec := { name := "dirsNil", fn := fun _ => fun
  | [d] => { results := [.lit (.bool false)], args := [d] }
  | _ => none }
def DirsNilWrongFalsely : Prop := dirsNilRow.holds Tryz.pinned (OpenSpec.ofChange dirsNilWrong)

/- THE SECOND FORM. 'bulk': how many values and letters a reading holds, each counted each time it is reached (what is shared counts as often as it is met; a slice's spare places count too). A statement '..UptoSaid' is the law's where the arguments, and the package variables that the reading takes, are together of bulk at most 1048576: NARROWER than '..Said'. Prove '..Said' where nothing that the law and all that it calls make is longer than what came in: it says more and counts as full. Else prove '..UptoSaid'. A law counts once. -/
mutual
def uptoBulk {H : Type} : DataW H → Nat
  | .lit (.string bytes) => bytes.length + 1
  | .lit _ => 1
  | .nil => 1
  | .ptr d => uptoBulk d + 1
  | .slice elems spare => uptoBulkAll elems + uptoBulkAll spare + 1
  | .agg parts => uptoBulkAll parts + 1
  | .iface _ d => uptoBulk d + 1
  | .map entries => uptoBulkEntries entries + 1
  | .held _ => 1
def uptoBulkAll {H : Type} : List (DataW H) → Nat
  | [] => 0
  | d :: r => uptoBulk d + uptoBulkAll r
def uptoBulkEntries {H : Type} : List (Lit × DataW H) → Nat
  | [] => 0
  | x :: r => uptoBulkEntry x + uptoBulkEntries r
def uptoBulkEntry {H : Type} : Lit × DataW H → Nat
  | (.string bytes, d) => bytes.length + uptoBulk d + 1
  | (_, d) => uptoBulk d + 1
 end
def uptoSmall : (H : Type) → List (DataW H) → Bool := fun _ ds => decide (uptoBulkAll ds ≤ 1048576)
def OpenSpec.upto (s : _root_.Go.ChangeSpec) : _root_.Go.OpenSpec := { _root_.Go.OpenSpec.ofChange s with cond := some uptoSmall }

/-- 'quernlaw22.StoreNil', WHERE WHAT IT READS IS OF BULK AT MOST 1048576: true; the input reads as it did. -/
def storeNilUptoRow : OpenClaim := { program := "ytimngnabpolgkaagreat", sum := "d9823c12090de6d31cd457eb8a830a23a8642dda465710b5e9d98df5b1459170", func := "quern/quernlaw22.StoreNil", spec := "storeNil", inPlace := ["maps.clone"], unfollowed := true, recurses := true, plainKeys := false, apart := false, narrowed := true }
def StoreNilUptoSaid : Prop := storeNilUptoRow.holds Tryz.pinned (OpenSpec.upto storeNilSpec)

/-- 'quernlaw23.BlocksNil', WHERE WHAT IT READS IS OF BULK AT MOST 1048576: true; the input reads as it did. -/
def blocksNilUptoRow : OpenClaim := { program := "ytimngnabpolgkaagreat", sum := "d9823c12090de6d31cd457eb8a830a23a8642dda465710b5e9d98df5b1459170", func := "quern/quernlaw23.BlocksNil", spec := "blocksNil", inPlace := ["maps.clone"], unfollowed := true, recurses := true, plainKeys := false, apart := false, narrowed := true }
def BlocksNilUptoSaid : Prop := blocksNilUptoRow.holds Tryz.pinned (OpenSpec.upto blocksNilSpec)

/-- 'quernlaw24.InodesNil', WHERE WHAT IT READS IS OF BULK AT MOST 1048576: true; the input reads as it did. -/
def inodesNilUptoRow : OpenClaim := { program := "ytimngnabpolgkaagreat", sum := "d9823c12090de6d31cd457eb8a830a23a8642dda465710b5e9d98df5b1459170", func := "quern/quernlaw24.InodesNil", spec := "inodesNil", inPlace := ["maps.clone"], unfollowed := true, recurses := true, plainKeys := false, apart := false, narrowed := true }
def InodesNilUptoSaid : Prop := inodesNilUptoRow.holds Tryz.pinned (OpenSpec.upto inodesNilSpec)

/-- 'quernlaw28.DirsNil', WHERE WHAT IT READS IS OF BULK AT MOST 1048576: true; the input reads as it did. -/
def dirsNilUptoRow : OpenClaim := { program := "ytimngnabpolgkaagreat", sum := "d9823c12090de6d31cd457eb8a830a23a8642dda465710b5e9d98df5b1459170", func := "quern/quernlaw28.DirsNil", spec := "dirsNil", inPlace := ["internal/bytealg.IndexByteString", "internal/bytealg.IndexString", "maps.clone"], unfollowed := true, recurses := true, named := ["internal/bytealg.MaxLen"], plainKeys := false, apart := false, narrowed := true }
def DirsNilUptoSaid : Prop := dirsNilUptoRow.holds Tryz.pinned (OpenSpec.upto dirsNilSpec)

end Rows
end Go.Proofs.YtimngnabpolgkaaGreat
