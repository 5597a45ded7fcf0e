/-
  NARROWER THAN 'FOR EVERY INPUT', by the rows' own cells (each row's printed sentence says how): MmuRights: laid · VspaceWalks: laid.
  DERIVED. THE GIVEN ROWS OF THIS SEAT. 2 by the template 'for every input the law returns true; each argument reads behind the call as it read before'; 0 by the template 'total and deterministic' (their statements: YtiknigdjmbdfgaaDoorTotals.lean).
  GIVEN WITH THE SEED: the statements are not yours to turn. If you find one false, say at which input.
  Laid BY PROGRAM, IN A SANDBOX (cutbox-rows.mjs): the forced cells as the released guide's own fill.sh prints them over the translation 112afc54e83ae7b7… (all of the seat's roots in one cut). By AI agents, Wed Nov 11 2026. No macro, syntax, notation, axiom, sorry.
-/
import Derived.Test.YtiknigdjmbdfgaaDoorChecked
import GoSem.Claim
import GoSem.ClaimJoined
import GoSem.ClaimMapViews
import Derived.JoinedTies
import Derived.KernelRfl
namespace Go.Proofs.YtiknigdjmbdfgaaDoor
/- THE CELL 'sum', in the pinned program and in every row, IS THE sha256 OF THE DUMP (.gsa) THAT YtiknigdjmbdfgaaDoorProg.lean LOADS. Nothing in Lean hashes anything: it is a label: what it is worth is what the hold of that sum in a sandbox is worth. -/
noncomputable def Tryd.pinned : Pinned := { name := "ytiknigdjmbdfgaadoor", sum := "112afc54e83ae7b74dd544cbfa366685a57ff8056344a03c8a83484065b8d11f", checked := Tryd.checked }
namespace Rows
def none {H : Type} : Left H := { results := [], args := [] }

/- WHAT THE LISTED PACKAGE-LEVEL VARIABLES READ AS WHEN THE CALL BEGINS. Each datum BY PROGRAM (the guide's laid-datum.mjs) off the statement by which the dump's own 'gosem.cut.vars' lays the variable. In a bare row this is a premise. The card (YtiknigdjmbdfgaaDoorCards.lean) ties it to the program's text. -/
def laid_vault_mmu_fault {H : Type} : DataW H := .agg [.agg [.lit (.int .i64 12), .lit (.int .i64 1)], .agg [.lit (.int .i64 13), .lit (.int .i64 5)], .agg [.lit (.int .i64 15), .lit (.int .i64 7)]]
def laid_vault_mmu_need {H : Type} : DataW H := .agg [.lit (.int .u32 89), .lit (.int .u32 83), .lit (.int .u32 215)]

/-- 'vaultkeep.MmuRights': WHATEVER THE INPUT: true; the input reads as it did. -/
def mmuRightsSpec : ChangeSpec := { name := "mmuRights", fn := fun _ => fun
  | [d1, d2, d3] => { results := [.lit (.bool true)], args := [d1, d2, d3] }
  | _ => none }
def mmuRightsRow : OpenClaim := { program := "ytiknigdjmbdfgaadoor", sum := "112afc54e83ae7b74dd544cbfa366685a57ff8056344a03c8a83484065b8d11f", func := "vault/vaultkeep.MmuRights", spec := "mmuRights", unfollowed := true, recurses := true, named := ["vault/mmu.fault", "vault/mmu.need"], apart := false, laid := [("vault/mmu.fault", laid_vault_mmu_fault), ("vault/mmu.need", laid_vault_mmu_need)] }
def MmuRightsSaid : Prop := mmuRightsRow.holds Tryd.pinned (OpenSpec.ofChange mmuRightsSpec)

/-- ITS FALSE NEIGHBOUR: 'it returns false'. Refute it at one input. -/
def mmuRightsWrong : ChangeSpec := { name := "mmuRights", fn := fun _ => fun
  | [d1, d2, d3] => { results := [.lit (.bool false)], args := [d1, d2, d3] }
  | _ => none }
def MmuRightsWrongFalsely : Prop := mmuRightsRow.holds Tryd.pinned (OpenSpec.ofChange mmuRightsWrong)

/-- 'vaultkeep.VspaceWalks': WHATEVER THE INPUT: true; the input reads as it did. -/
def vspaceWalksSpec : ChangeSpec := { name := "vspaceWalks", fn := fun _ => fun
  | [d1, d2] => { results := [.lit (.bool true)], args := [d1, d2] }
  | _ => none }
def vspaceWalksRow : OpenClaim := { program := "ytiknigdjmbdfgaadoor", sum := "112afc54e83ae7b74dd544cbfa366685a57ff8056344a03c8a83484065b8d11f", func := "vault/vaultkeep.VspaceWalks", spec := "vspaceWalks", unfollowed := true, recurses := true, named := ["vault/mmu.fault", "vault/mmu.need"], apart := false, laid := [("vault/mmu.fault", laid_vault_mmu_fault), ("vault/mmu.need", laid_vault_mmu_need)] }
def VspaceWalksSaid : Prop := vspaceWalksRow.holds Tryd.pinned (OpenSpec.ofChange vspaceWalksSpec)

/-- ITS FALSE NEIGHBOUR: 'it returns false'. Refute it at one input. -/
def vspaceWalksWrong : ChangeSpec := { name := "vspaceWalks", fn := fun _ => fun
  | [d1, d2] => { results := [.lit (.bool false)], args := [d1, d2] }
  | _ => none }
def VspaceWalksWrongFalsely : Prop := vspaceWalksRow.holds Tryd.pinned (OpenSpec.ofChange vspaceWalksWrong)

/- THE SECOND FORM. 'bulk': how many values and letters a reading holds, each counted each time it is reached (what is shared counts as often as it is met; a slice's spare places count too). A statement '..UptoSaid' is the law's where the arguments, and the package variables that the reading takes, are together of bulk at most 1048576: NARROWER than '..Said'. Prove '..Said' where nothing that the law and all that it calls make is longer than what came in: it says more and counts as full. Else prove '..UptoSaid'. A law counts once. -/
mutual
def uptoBulk {H : Type} : DataW H → Nat
  | .lit (.string bytes) => bytes.length + 1
  | .lit _ => 1
  | .nil => 1
  | .ptr d => uptoBulk d + 1
  | .slice elems spare => uptoBulkAll elems + uptoBulkAll spare + 1
  | .agg parts => uptoBulkAll parts + 1
  | .iface _ d => uptoBulk d + 1
  | .map entries => uptoBulkEntries entries + 1
  | .held _ => 1
def uptoBulkAll {H : Type} : List (DataW H) → Nat
  | [] => 0
  | d :: r => uptoBulk d + uptoBulkAll r
def uptoBulkEntries {H : Type} : List (Lit × DataW H) → Nat
  | [] => 0
  | x :: r => uptoBulkEntry x + uptoBulkEntries r
def uptoBulkEntry {H : Type} : Lit × DataW H → Nat
  | (.string bytes, d) => bytes.length + uptoBulk d + 1
  | (_, d) => uptoBulk d + 1
 end
def uptoSmall : (H : Type) → List (DataW H) → Bool := fun _ ds => decide (uptoBulkAll ds ≤ 1048576)
def OpenSpec.upto (s : _root_.Go.ChangeSpec) : _root_.Go.OpenSpec := { _root_.Go.OpenSpec.ofChange s with cond := some uptoSmall }

/-- 'vaultkeep.MmuRights', WHERE WHAT IT READS IS OF BULK AT MOST 1048576: true; the input reads as it did. -/
def mmuRightsUptoRow : OpenClaim := { program := "ytiknigdjmbdfgaadoor", sum := "112afc54e83ae7b74dd544cbfa366685a57ff8056344a03c8a83484065b8d11f", func := "vault/vaultkeep.MmuRights", spec := "mmuRights", unfollowed := true, recurses := true, named := ["vault/mmu.fault", "vault/mmu.need"], apart := false, laid := [("vault/mmu.fault", laid_vault_mmu_fault), ("vault/mmu.need", laid_vault_mmu_need)], narrowed := true }
def MmuRightsUptoSaid : Prop := mmuRightsUptoRow.holds Tryd.pinned (OpenSpec.upto mmuRightsSpec)

/-- 'vaultkeep.VspaceWalks', WHERE WHAT IT READS IS OF BULK AT MOST 1048576: true; the input reads as it did. -/
def vspaceWalksUptoRow : OpenClaim := { program := "ytiknigdjmbdfgaadoor", sum := "112afc54e83ae7b74dd544cbfa366685a57ff8056344a03c8a83484065b8d11f", func := "vault/vaultkeep.VspaceWalks", spec := "vspaceWalks", unfollowed := true, recurses := true, named := ["vault/mmu.fault", "vault/mmu.need"], apart := false, laid := [("vault/mmu.fault", laid_vault_mmu_fault), ("vault/mmu.need", laid_vault_mmu_need)], narrowed := true }
def VspaceWalksUptoSaid : Prop := vspaceWalksUptoRow.holds Tryd.pinned (OpenSpec.upto vspaceWalksSpec)

end Rows
end Go.Proofs.YtiknigdjmbdfgaaDoor
