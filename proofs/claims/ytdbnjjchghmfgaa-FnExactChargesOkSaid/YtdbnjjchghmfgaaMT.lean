/- MT: sizes, copies, comparisons and marks of the laws' types. No condition. -/
import Derived.Test.YtdbnjjchghmfgaaB2
set_option linter.unusedVariables false
set_option linter.unusedSimpArgs false
set_option synthInstance.maxSize 1000
set_option synthInstance.maxHeartbeats 400000
namespace Go.Am
def sz_IntS (l : List Int) : Nat := l.length
def wf_IntS (l : List Int) : Bool := decide (l.length ≤ 9223372036854775807)
def F_laws_szIntS : (List Int) × Int → Option Int := fun ((x, k) : (List Int) × Int) => if kOk k ∧ wf_IntS x = true then some (szR (sz_IntS x) k) else none
def F_laws_toIntS : (List Int) → Option (List Int) := fun (x : List Int) => if sz_IntS x ≤ 1048576 then some x else none
def F_laws_eqIntS : (List Int) × (List Int) → Option Bool := fun ((x, y) : (List Int) × (List Int)) => if sz_IntS x ≤ 1048576 then some (decide (x = y)) else none

def sz_IntSS (l : List (List Int)) : Nat := l.length + (l.map sz_IntS).sum
def wf_IntSS (l : List (List Int)) : Bool := decide (l.length ≤ 9223372036854775807) && l.all wf_IntS
def F_laws_szIntSS : (List (List Int)) × Int → Option Int := fun ((x, k) : (List (List Int)) × Int) => if kOk k ∧ wf_IntSS x = true then some (szR (sz_IntSS x) k) else none
def F_laws_toIntSS : (List (List Int)) → Option (List (List Int)) := fun (x : List (List Int)) => if sz_IntSS x ≤ 1048576 then some x else none
def F_laws_eqIntSS : (List (List Int)) × (List (List Int)) → Option Bool := fun ((x, y) : (List (List Int)) × (List (List Int))) => if sz_IntSS x ≤ 1048576 then some (decide (x = y)) else none

def sz_Matrix (x : Int × Int × (List Int)) : Nat := match x with | (a0, a1, a2) => sz_IntS a2
def wf_Matrix (x : Int × Int × (List Int)) : Bool := match x with | (a0, a1, a2) => wf_IntS a2
def F_laws_szMatrix : (Int × Int × (List Int)) × Int → Option Int := fun ((x, k) : (Int × Int × (List Int)) × Int) => if kOk k ∧ wf_Matrix x = true then some (szR (sz_Matrix x) k) else none
def F_laws_toMatrix : (Int × Int × (List Int)) → Option (Int × Int × (List Int)) := fun (x : Int × Int × (List Int)) => if sz_Matrix x ≤ 1048576 then some x else none
def F_laws_eqMatrix : (Int × Int × (List Int)) × (Int × Int × (List Int)) → Option Bool := fun ((x, y) : (Int × Int × (List Int)) × (Int × Int × (List Int))) => if sz_Matrix x ≤ 1048576 then some (decide (x = y)) else none

def sz_MatrixS (l : List (Int × Int × (List Int))) : Nat := l.length + (l.map sz_Matrix).sum
def wf_MatrixS (l : List (Int × Int × (List Int))) : Bool := decide (l.length ≤ 9223372036854775807) && l.all wf_Matrix
def F_laws_szMatrixS : (List (Int × Int × (List Int))) × Int → Option Int := fun ((x, k) : (List (Int × Int × (List Int))) × Int) => if kOk k ∧ wf_MatrixS x = true then some (szR (sz_MatrixS x) k) else none
def F_laws_toMatrixS : (List (Int × Int × (List Int))) → Option (List (Int × Int × (List Int))) := fun (x : List (Int × Int × (List Int))) => if sz_MatrixS x ≤ 1048576 then some x else none
def F_laws_eqMatrixS : (List (Int × Int × (List Int))) × (List (Int × Int × (List Int))) → Option Bool := fun ((x, y) : (List (Int × Int × (List Int))) × (List (Int × Int × (List Int)))) => if sz_MatrixS x ≤ 1048576 then some (decide (x = y)) else none

def sz_Automaton (x : Int × Int × (List Int) × (List (Int × Int × (List Int))) × (List Int)) : Nat := match x with | (a0, a1, a2, a3, a4) => sz_IntS a2 + sz_MatrixS a3 + sz_IntS a4
def wf_Automaton (x : Int × Int × (List Int) × (List (Int × Int × (List Int))) × (List Int)) : Bool := match x with | (a0, a1, a2, a3, a4) => wf_IntS a2 && wf_MatrixS a3 && wf_IntS a4
def F_laws_szAutomaton : (Int × Int × (List Int) × (List (Int × Int × (List Int))) × (List Int)) × Int → Option Int := fun ((x, k) : (Int × Int × (List Int) × (List (Int × Int × (List Int))) × (List Int)) × Int) => if kOk k ∧ wf_Automaton x = true then some (szR (sz_Automaton x) k) else none
def F_laws_toAutomaton : (Int × Int × (List Int) × (List (Int × Int × (List Int))) × (List Int)) → Option (Int × Int × (List Int) × (List (Int × Int × (List Int))) × (List Int)) := fun (x : Int × Int × (List Int) × (List (Int × Int × (List Int))) × (List Int)) => if sz_Automaton x ≤ 1048576 then some x else none
def F_laws_eqAutomaton : (Int × Int × (List Int) × (List (Int × Int × (List Int))) × (List Int)) × (Int × Int × (List Int) × (List (Int × Int × (List Int))) × (List Int)) → Option Bool := fun ((x, y) : (Int × Int × (List Int) × (List (Int × Int × (List Int))) × (List Int)) × (Int × Int × (List Int) × (List (Int × Int × (List Int))) × (List Int))) => if sz_Automaton x ≤ 1048576 then some (decide (x = y)) else none

def sz_Site (x : Int × Int × Int × (List Int)) : Nat := match x with | (a0, a1, a2, a3) => sz_IntS a3
def wf_Site (x : Int × Int × Int × (List Int)) : Bool := match x with | (a0, a1, a2, a3) => wf_IntS a3
def F_laws_szSite : (Int × Int × Int × (List Int)) × Int → Option Int := fun ((x, k) : (Int × Int × Int × (List Int)) × Int) => if kOk k ∧ wf_Site x = true then some (szR (sz_Site x) k) else none
def F_laws_toSite : (Int × Int × Int × (List Int)) → Option (Int × Int × Int × (List Int)) := fun (x : Int × Int × Int × (List Int)) => if sz_Site x ≤ 1048576 then some x else none
def F_laws_eqSite : (Int × Int × Int × (List Int)) × (Int × Int × Int × (List Int)) → Option Bool := fun ((x, y) : (Int × Int × Int × (List Int)) × (Int × Int × Int × (List Int))) => if sz_Site x ≤ 1048576 then some (decide (x = y)) else none

def sz_SiteS (l : List (Int × Int × Int × (List Int))) : Nat := l.length + (l.map sz_Site).sum
def wf_SiteS (l : List (Int × Int × Int × (List Int))) : Bool := decide (l.length ≤ 9223372036854775807) && l.all wf_Site
def F_laws_szSiteS : (List (Int × Int × Int × (List Int))) × Int → Option Int := fun ((x, k) : (List (Int × Int × Int × (List Int))) × Int) => if kOk k ∧ wf_SiteS x = true then some (szR (sz_SiteS x) k) else none
def F_laws_toSiteS : (List (Int × Int × Int × (List Int))) → Option (List (Int × Int × Int × (List Int))) := fun (x : List (Int × Int × Int × (List Int))) => if sz_SiteS x ≤ 1048576 then some x else none
def F_laws_eqSiteS : (List (Int × Int × Int × (List Int))) × (List (Int × Int × Int × (List Int))) → Option Bool := fun ((x, y) : (List (Int × Int × Int × (List Int))) × (List (Int × Int × Int × (List Int)))) => if sz_SiteS x ≤ 1048576 then some (decide (x = y)) else none

def sz_Chain (x : Int × (List (Int × Int × Int × (List Int)))) : Nat := match x with | (a0, a1) => sz_SiteS a1
def wf_Chain (x : Int × (List (Int × Int × Int × (List Int)))) : Bool := match x with | (a0, a1) => wf_SiteS a1
def F_laws_szChain : (Int × (List (Int × Int × Int × (List Int)))) × Int → Option Int := fun ((x, k) : (Int × (List (Int × Int × Int × (List Int)))) × Int) => if kOk k ∧ wf_Chain x = true then some (szR (sz_Chain x) k) else none
def F_laws_toChain : (Int × (List (Int × Int × Int × (List Int)))) → Option (Int × (List (Int × Int × Int × (List Int)))) := fun (x : Int × (List (Int × Int × Int × (List Int)))) => if sz_Chain x ≤ 1048576 then some x else none
def F_laws_eqChain : (Int × (List (Int × Int × Int × (List Int)))) × (Int × (List (Int × Int × Int × (List Int)))) → Option Bool := fun ((x, y) : (Int × (List (Int × Int × Int × (List Int)))) × (Int × (List (Int × Int × Int × (List Int))))) => if sz_Chain x ≤ 1048576 then some (decide (x = y)) else none

def sz_Tensor (x : (List Int) × (List Int) × (List Int)) : Nat := match x with | (a0, a1, a2) => sz_IntS a0 + sz_IntS a1 + sz_IntS a2
def wf_Tensor (x : (List Int) × (List Int) × (List Int)) : Bool := match x with | (a0, a1, a2) => wf_IntS a0 && wf_IntS a1 && wf_IntS a2
def F_laws_szTensor : ((List Int) × (List Int) × (List Int)) × Int → Option Int := fun ((x, k) : ((List Int) × (List Int) × (List Int)) × Int) => if kOk k ∧ wf_Tensor x = true then some (szR (sz_Tensor x) k) else none
def F_laws_toTensor : ((List Int) × (List Int) × (List Int)) → Option ((List Int) × (List Int) × (List Int)) := fun (x : (List Int) × (List Int) × (List Int)) => if sz_Tensor x ≤ 1048576 then some x else none
def F_laws_eqTensor : ((List Int) × (List Int) × (List Int)) × ((List Int) × (List Int) × (List Int)) → Option Bool := fun ((x, y) : ((List Int) × (List Int) × (List Int)) × ((List Int) × (List Int) × (List Int))) => if sz_Tensor x ≤ 1048576 then some (decide (x = y)) else none

def sz_Charges (x : Int × (List (List Int))) : Nat := match x with | (a0, a1) => sz_IntSS a1
def wf_Charges (x : Int × (List (List Int))) : Bool := match x with | (a0, a1) => wf_IntSS a1
def F_laws_szCharges : (Int × (List (List Int))) × Int → Option Int := fun ((x, k) : (Int × (List (List Int))) × Int) => if kOk k ∧ wf_Charges x = true then some (szR (sz_Charges x) k) else none
def F_laws_toCharges : (Int × (List (List Int))) → Option (Int × (List (List Int))) := fun (x : Int × (List (List Int))) => if sz_Charges x ≤ 1048576 then some x else none
def F_laws_eqCharges : (Int × (List (List Int))) × (Int × (List (List Int))) → Option Bool := fun ((x, y) : (Int × (List (List Int))) × (Int × (List (List Int)))) => if sz_Charges x ≤ 1048576 then some (decide (x = y)) else none

def sz_Edge (x : Int × Int) : Nat := match x with | (a0, a1) => 0
def wf_Edge (x : Int × Int) : Bool := match x with | (a0, a1) => true
def F_laws_szEdge : (Int × Int) × Int → Option Int := fun ((x, k) : (Int × Int) × Int) => if kOk k ∧ wf_Edge x = true then some (szR (sz_Edge x) k) else none
def F_laws_toEdge : (Int × Int) → Option (Int × Int) := fun (x : Int × Int) => if sz_Edge x ≤ 1048576 then some x else none
def F_laws_eqEdge : (Int × Int) × (Int × Int) → Option Bool := fun ((x, y) : (Int × Int) × (Int × Int)) => if sz_Edge x ≤ 1048576 then some (decide (x = y)) else none

def sz_EdgeS (l : List (Int × Int)) : Nat := l.length
def wf_EdgeS (l : List (Int × Int)) : Bool := decide (l.length ≤ 9223372036854775807)
def F_laws_szEdgeS : (List (Int × Int)) × Int → Option Int := fun ((x, k) : (List (Int × Int)) × Int) => if kOk k ∧ wf_EdgeS x = true then some (szR (sz_EdgeS x) k) else none
def F_laws_toEdgeS : (List (Int × Int)) → Option (List (Int × Int)) := fun (x : List (Int × Int)) => if sz_EdgeS x ≤ 1048576 then some x else none
def F_laws_eqEdgeS : (List (Int × Int)) × (List (Int × Int)) → Option Bool := fun ((x, y) : (List (Int × Int)) × (List (Int × Int))) => if sz_EdgeS x ≤ 1048576 then some (decide (x = y)) else none

def sz_Graph (x : Int × (List (Int × Int))) : Nat := match x with | (a0, a1) => sz_EdgeS a1
def wf_Graph (x : Int × (List (Int × Int))) : Bool := match x with | (a0, a1) => wf_EdgeS a1
def F_laws_szGraph : (Int × (List (Int × Int))) × Int → Option Int := fun ((x, k) : (Int × (List (Int × Int))) × Int) => if kOk k ∧ wf_Graph x = true then some (szR (sz_Graph x) k) else none
def F_laws_toGraph : (Int × (List (Int × Int))) → Option (Int × (List (Int × Int))) := fun (x : Int × (List (Int × Int))) => if sz_Graph x ≤ 1048576 then some x else none
def F_laws_eqGraph : (Int × (List (Int × Int))) × (Int × (List (Int × Int))) → Option Bool := fun ((x, y) : (Int × (List (Int × Int))) × (Int × (List (Int × Int)))) => if sz_Graph x ≤ 1048576 then some (decide (x = y)) else none

def cnt_IntS (l : List Int) : Nat := cntL (fun _ => 1) l
def mk_IntS (l : List Int) (k : Int) : List Int := mkL (fun _ => 1) (fun _ k => k) l k
def F_laws_markIntS : (List Int) × Int → Option (Int × (List Int)) := fun ((x, k) : (List Int) × Int) => if 0 ≤ k ∧ k + 4 * (sz_IntS x : Nat) ≤ 1099511627776 then some (k + (cnt_IntS x : Nat), mk_IntS x k) else none
def F_laws_heldIntS : (List Int) × Int → Option Int := fun ((x, k) : (List Int) × Int) => if 0 ≤ k ∧ k + 4 * (sz_IntS x : Nat) ≤ 1099511627776 then some (if x = mk_IntS x k then k + (cnt_IntS x : Nat) else -1) else none

def cnt_IntSS (l : List (List Int)) : Nat := cntL cnt_IntS l
def mk_IntSS (l : List (List Int)) (k : Int) : List (List Int) := mkL cnt_IntS mk_IntS l k
def F_laws_markIntSS : (List (List Int)) × Int → Option (Int × (List (List Int))) := fun ((x, k) : (List (List Int)) × Int) => if 0 ≤ k ∧ k + 4 * (sz_IntSS x : Nat) ≤ 1099511627776 then some (k + (cnt_IntSS x : Nat), mk_IntSS x k) else none
def F_laws_heldIntSS : (List (List Int)) × Int → Option Int := fun ((x, k) : (List (List Int)) × Int) => if 0 ≤ k ∧ k + 4 * (sz_IntSS x : Nat) ≤ 1099511627776 then some (if x = mk_IntSS x k then k + (cnt_IntSS x : Nat) else -1) else none

def cnt_Matrix (x : Int × Int × (List Int)) : Nat := match x with | (a0, a1, a2) => cnt_IntS a2
def mk_Matrix (x : Int × Int × (List Int)) (k : Int) : Int × Int × (List Int) := match x with | (a0, a1, a2) => (a0, a1, mk_IntS a2 (k))
def F_laws_markMatrix : (Int × Int × (List Int)) × Int → Option (Int × (List Int)) := fun (((a0, a1, a2), k) : (Int × Int × (List Int)) × Int) => if 0 ≤ k ∧ k + 4 * (sz_Matrix (a0, a1, a2) : Nat) ≤ 1099511627776 then some (k + (cnt_IntS a2 : Nat), mk_IntS a2 (k)) else none
def F_laws_heldMatrix : (Int × Int × (List Int)) × Int → Option Int := fun (((a0, a1, a2), k) : (Int × Int × (List Int)) × Int) => if 0 ≤ k ∧ k + 4 * (sz_Matrix (a0, a1, a2) : Nat) ≤ 1099511627776 then some (if a2 = mk_IntS a2 (k) then k + (cnt_IntS a2 : Nat) else -1) else none

def cntE_Matrix (x : Int × Int × (List Int)) : Nat := match x with | (a0, a1, a2) => 1 + 1 + cnt_IntS a2
def mkE_Matrix (x : Int × Int × (List Int)) (k : Int) : Int × Int × (List Int) := match x with | (a0, a1, a2) => (k, k + 1, mk_IntS a2 (k + 1 + 1))
def cnt_MatrixS (l : List (Int × Int × (List Int))) : Nat := cntL cntE_Matrix l
def mk_MatrixS (l : List (Int × Int × (List Int))) (k : Int) : List (Int × Int × (List Int)) := mkL cntE_Matrix mkE_Matrix l k
def F_laws_markMatrixS : (List (Int × Int × (List Int))) × Int → Option (Int × (List (Int × Int × (List Int)))) := fun ((x, k) : (List (Int × Int × (List Int))) × Int) => if 0 ≤ k ∧ k + 4 * (sz_MatrixS x : Nat) ≤ 1099511627776 then some (k + (cnt_MatrixS x : Nat), mk_MatrixS x k) else none
def F_laws_heldMatrixS : (List (Int × Int × (List Int))) × Int → Option Int := fun ((x, k) : (List (Int × Int × (List Int))) × Int) => if 0 ≤ k ∧ k + 4 * (sz_MatrixS x : Nat) ≤ 1099511627776 then some (if x = mk_MatrixS x k then k + (cnt_MatrixS x : Nat) else -1) else none

def cnt_Automaton (x : Int × Int × (List Int) × (List (Int × Int × (List Int))) × (List Int)) : Nat := match x with | (a0, a1, a2, a3, a4) => cnt_IntS a2 + cnt_MatrixS a3 + cnt_IntS a4
def mk_Automaton (x : Int × Int × (List Int) × (List (Int × Int × (List Int))) × (List Int)) (k : Int) : Int × Int × (List Int) × (List (Int × Int × (List Int))) × (List Int) := match x with | (a0, a1, a2, a3, a4) => (a0, a1, mk_IntS a2 (k), mk_MatrixS a3 (k + (cnt_IntS a2 : Nat)), mk_IntS a4 (k + (cnt_IntS a2 : Nat) + (cnt_MatrixS a3 : Nat)))
def F_laws_markAutomaton : (Int × Int × (List Int) × (List (Int × Int × (List Int))) × (List Int)) × Int → Option (Int × (List Int) × (List (Int × Int × (List Int))) × (List Int)) := fun (((a0, a1, a2, a3, a4), k) : (Int × Int × (List Int) × (List (Int × Int × (List Int))) × (List Int)) × Int) => if 0 ≤ k ∧ k + 4 * (sz_Automaton (a0, a1, a2, a3, a4) : Nat) ≤ 1099511627776 then some (k + (cnt_IntS a2 : Nat) + (cnt_MatrixS a3 : Nat) + (cnt_IntS a4 : Nat), mk_IntS a2 (k), mk_MatrixS a3 (k + (cnt_IntS a2 : Nat)), mk_IntS a4 (k + (cnt_IntS a2 : Nat) + (cnt_MatrixS a3 : Nat))) else none
def F_laws_heldAutomaton : (Int × Int × (List Int) × (List (Int × Int × (List Int))) × (List Int)) × Int → Option Int := fun (((a0, a1, a2, a3, a4), k) : (Int × Int × (List Int) × (List (Int × Int × (List Int))) × (List Int)) × Int) => if 0 ≤ k ∧ k + 4 * (sz_Automaton (a0, a1, a2, a3, a4) : Nat) ≤ 1099511627776 then some (if a2 = mk_IntS a2 (k) ∧ a3 = mk_MatrixS a3 (k + (cnt_IntS a2 : Nat)) ∧ a4 = mk_IntS a4 (k + (cnt_IntS a2 : Nat) + (cnt_MatrixS a3 : Nat)) then k + (cnt_IntS a2 : Nat) + (cnt_MatrixS a3 : Nat) + (cnt_IntS a4 : Nat) else -1) else none

def cntE_Site (x : Int × Int × Int × (List Int)) : Nat := match x with | (a0, a1, a2, a3) => 1 + 1 + 1 + cnt_IntS a3
def mkE_Site (x : Int × Int × Int × (List Int)) (k : Int) : Int × Int × Int × (List Int) := match x with | (a0, a1, a2, a3) => (k, k + 1, k + 1 + 1, mk_IntS a3 (k + 1 + 1 + 1))
def cnt_SiteS (l : List (Int × Int × Int × (List Int))) : Nat := cntL cntE_Site l
def mk_SiteS (l : List (Int × Int × Int × (List Int))) (k : Int) : List (Int × Int × Int × (List Int)) := mkL cntE_Site mkE_Site l k
def F_laws_markSiteS : (List (Int × Int × Int × (List Int))) × Int → Option (Int × (List (Int × Int × Int × (List Int)))) := fun ((x, k) : (List (Int × Int × Int × (List Int))) × Int) => if 0 ≤ k ∧ k + 4 * (sz_SiteS x : Nat) ≤ 1099511627776 then some (k + (cnt_SiteS x : Nat), mk_SiteS x k) else none
def F_laws_heldSiteS : (List (Int × Int × Int × (List Int))) × Int → Option Int := fun ((x, k) : (List (Int × Int × Int × (List Int))) × Int) => if 0 ≤ k ∧ k + 4 * (sz_SiteS x : Nat) ≤ 1099511627776 then some (if x = mk_SiteS x k then k + (cnt_SiteS x : Nat) else -1) else none

def cnt_Chain (x : Int × (List (Int × Int × Int × (List Int)))) : Nat := match x with | (a0, a1) => cnt_SiteS a1
def mk_Chain (x : Int × (List (Int × Int × Int × (List Int)))) (k : Int) : Int × (List (Int × Int × Int × (List Int))) := match x with | (a0, a1) => (a0, mk_SiteS a1 (k))
def F_laws_markChain : (Int × (List (Int × Int × Int × (List Int)))) × Int → Option (Int × (List (Int × Int × Int × (List Int)))) := fun (((a0, a1), k) : (Int × (List (Int × Int × Int × (List Int)))) × Int) => if 0 ≤ k ∧ k + 4 * (sz_Chain (a0, a1) : Nat) ≤ 1099511627776 then some (k + (cnt_SiteS a1 : Nat), mk_SiteS a1 (k)) else none
def F_laws_heldChain : (Int × (List (Int × Int × Int × (List Int)))) × Int → Option Int := fun (((a0, a1), k) : (Int × (List (Int × Int × Int × (List Int)))) × Int) => if 0 ≤ k ∧ k + 4 * (sz_Chain (a0, a1) : Nat) ≤ 1099511627776 then some (if a1 = mk_SiteS a1 (k) then k + (cnt_SiteS a1 : Nat) else -1) else none

def cnt_Tensor (x : (List Int) × (List Int) × (List Int)) : Nat := match x with | (a0, a1, a2) => cnt_IntS a0 + cnt_IntS a1 + cnt_IntS a2
def mk_Tensor (x : (List Int) × (List Int) × (List Int)) (k : Int) : (List Int) × (List Int) × (List Int) := match x with | (a0, a1, a2) => (mk_IntS a0 (k), mk_IntS a1 (k + (cnt_IntS a0 : Nat)), mk_IntS a2 (k + (cnt_IntS a0 : Nat) + (cnt_IntS a1 : Nat)))
def F_laws_markTensor : ((List Int) × (List Int) × (List Int)) × Int → Option (Int × (List Int) × (List Int) × (List Int)) := fun (((a0, a1, a2), k) : ((List Int) × (List Int) × (List Int)) × Int) => if 0 ≤ k ∧ k + 4 * (sz_Tensor (a0, a1, a2) : Nat) ≤ 1099511627776 then some (k + (cnt_IntS a0 : Nat) + (cnt_IntS a1 : Nat) + (cnt_IntS a2 : Nat), mk_IntS a0 (k), mk_IntS a1 (k + (cnt_IntS a0 : Nat)), mk_IntS a2 (k + (cnt_IntS a0 : Nat) + (cnt_IntS a1 : Nat))) else none
def F_laws_heldTensor : ((List Int) × (List Int) × (List Int)) × Int → Option Int := fun (((a0, a1, a2), k) : ((List Int) × (List Int) × (List Int)) × Int) => if 0 ≤ k ∧ k + 4 * (sz_Tensor (a0, a1, a2) : Nat) ≤ 1099511627776 then some (if a0 = mk_IntS a0 (k) ∧ a1 = mk_IntS a1 (k + (cnt_IntS a0 : Nat)) ∧ a2 = mk_IntS a2 (k + (cnt_IntS a0 : Nat) + (cnt_IntS a1 : Nat)) then k + (cnt_IntS a0 : Nat) + (cnt_IntS a1 : Nat) + (cnt_IntS a2 : Nat) else -1) else none

def cnt_Charges (x : Int × (List (List Int))) : Nat := match x with | (a0, a1) => cnt_IntSS a1
def mk_Charges (x : Int × (List (List Int))) (k : Int) : Int × (List (List Int)) := match x with | (a0, a1) => (a0, mk_IntSS a1 (k))
def F_laws_markCharges : (Int × (List (List Int))) × Int → Option (Int × (List (List Int))) := fun (((a0, a1), k) : (Int × (List (List Int))) × Int) => if 0 ≤ k ∧ k + 4 * (sz_Charges (a0, a1) : Nat) ≤ 1099511627776 then some (k + (cnt_IntSS a1 : Nat), mk_IntSS a1 (k)) else none
def F_laws_heldCharges : (Int × (List (List Int))) × Int → Option Int := fun (((a0, a1), k) : (Int × (List (List Int))) × Int) => if 0 ≤ k ∧ k + 4 * (sz_Charges (a0, a1) : Nat) ≤ 1099511627776 then some (if a1 = mk_IntSS a1 (k) then k + (cnt_IntSS a1 : Nat) else -1) else none

def cntE_Edge (x : Int × Int) : Nat := match x with | (a0, a1) => 1 + 1
def mkE_Edge (x : Int × Int) (k : Int) : Int × Int := match x with | (a0, a1) => (k, k + 1)
def cnt_EdgeS (l : List (Int × Int)) : Nat := cntL cntE_Edge l
def mk_EdgeS (l : List (Int × Int)) (k : Int) : List (Int × Int) := mkL cntE_Edge mkE_Edge l k
def F_laws_markEdgeS : (List (Int × Int)) × Int → Option (Int × (List (Int × Int))) := fun ((x, k) : (List (Int × Int)) × Int) => if 0 ≤ k ∧ k + 4 * (sz_EdgeS x : Nat) ≤ 1099511627776 then some (k + (cnt_EdgeS x : Nat), mk_EdgeS x k) else none
def F_laws_heldEdgeS : (List (Int × Int)) × Int → Option Int := fun ((x, k) : (List (Int × Int)) × Int) => if 0 ≤ k ∧ k + 4 * (sz_EdgeS x : Nat) ≤ 1099511627776 then some (if x = mk_EdgeS x k then k + (cnt_EdgeS x : Nat) else -1) else none

def cnt_Graph (x : Int × (List (Int × Int))) : Nat := match x with | (a0, a1) => cnt_EdgeS a1
def mk_Graph (x : Int × (List (Int × Int))) (k : Int) : Int × (List (Int × Int)) := match x with | (a0, a1) => (a0, mk_EdgeS a1 (k))
def F_laws_markGraph : (Int × (List (Int × Int))) × Int → Option (Int × (List (Int × Int))) := fun (((a0, a1), k) : (Int × (List (Int × Int))) × Int) => if 0 ≤ k ∧ k + 4 * (sz_Graph (a0, a1) : Nat) ≤ 1099511627776 then some (k + (cnt_EdgeS a1 : Nat), mk_EdgeS a1 (k)) else none
def F_laws_heldGraph : (Int × (List (Int × Int))) × Int → Option Int := fun (((a0, a1), k) : (Int × (List (Int × Int))) × Int) => if 0 ≤ k ∧ k + 4 * (sz_Graph (a0, a1) : Nat) ≤ 1099511627776 then some (if a1 = mk_EdgeS a1 (k) then k + (cnt_EdgeS a1 : Nat) else -1) else none

def ag_laws_szIntS : Sig := [(.one, [.list [.int .i64]]), (.one, [.int .i64])]
def rs_laws_szIntS : Sig := [(.one, [.int .i64])]
def mu_laws_szIntS : MSig := []
def ag_laws_toIntS : Sig := [(.one, [.list [.int .i64]])]
def rs_laws_toIntS : Sig := [(.one, [.list [.int .i64]])]
def mu_laws_toIntS : MSig := []
def ag_laws_eqIntS : Sig := [(.one, [.list [.int .i64]]), (.one, [.list [.int .i64]])]
def rs_laws_eqIntS : Sig := [(.one, [.bool])]
def mu_laws_eqIntS : MSig := []
def ag_laws_szIntSS : Sig := [(.one, [.list [.list [.int .i64]]]), (.one, [.int .i64])]
def rs_laws_szIntSS : Sig := [(.one, [.int .i64])]
def mu_laws_szIntSS : MSig := []
def ag_laws_toIntSS : Sig := [(.one, [.list [.list [.int .i64]]])]
def rs_laws_toIntSS : Sig := [(.one, [.list [.list [.int .i64]]])]
def mu_laws_toIntSS : MSig := []
def ag_laws_eqIntSS : Sig := [(.one, [.list [.list [.int .i64]]]), (.one, [.list [.list [.int .i64]]])]
def rs_laws_eqIntSS : Sig := [(.one, [.bool])]
def mu_laws_eqIntSS : MSig := []
def ag_laws_szMatrix : Sig := [(.agg, [.int .i64, .int .i64, .list [.int .i64]]), (.one, [.int .i64])]
def rs_laws_szMatrix : Sig := [(.one, [.int .i64])]
def mu_laws_szMatrix : MSig := []
def ag_laws_toMatrix : Sig := [(.agg, [.int .i64, .int .i64, .list [.int .i64]])]
def rs_laws_toMatrix : Sig := [(.agg, [.int .i64, .int .i64, .list [.int .i64]])]
def mu_laws_toMatrix : MSig := []
def ag_laws_eqMatrix : Sig := [(.agg, [.int .i64, .int .i64, .list [.int .i64]]), (.agg, [.int .i64, .int .i64, .list [.int .i64]])]
def rs_laws_eqMatrix : Sig := [(.one, [.bool])]
def mu_laws_eqMatrix : MSig := []
def ag_laws_szMatrixS : Sig := [(.one, [.list [.int .i64, .int .i64, .list [.int .i64]]]), (.one, [.int .i64])]
def rs_laws_szMatrixS : Sig := [(.one, [.int .i64])]
def mu_laws_szMatrixS : MSig := []
def ag_laws_toMatrixS : Sig := [(.one, [.list [.int .i64, .int .i64, .list [.int .i64]]])]
def rs_laws_toMatrixS : Sig := [(.one, [.list [.int .i64, .int .i64, .list [.int .i64]]])]
def mu_laws_toMatrixS : MSig := []
def ag_laws_eqMatrixS : Sig := [(.one, [.list [.int .i64, .int .i64, .list [.int .i64]]]), (.one, [.list [.int .i64, .int .i64, .list [.int .i64]]])]
def rs_laws_eqMatrixS : Sig := [(.one, [.bool])]
def mu_laws_eqMatrixS : MSig := []
def ag_laws_szAutomaton : Sig := [(.agg, [.int .i64, .int .i64, .list [.int .i64], .list [.int .i64, .int .i64, .list [.int .i64]], .list [.int .i64]]), (.one, [.int .i64])]
def rs_laws_szAutomaton : Sig := [(.one, [.int .i64])]
def mu_laws_szAutomaton : MSig := []
def ag_laws_toAutomaton : Sig := [(.agg, [.int .i64, .int .i64, .list [.int .i64], .list [.int .i64, .int .i64, .list [.int .i64]], .list [.int .i64]])]
def rs_laws_toAutomaton : Sig := [(.agg, [.int .i64, .int .i64, .list [.int .i64], .list [.int .i64, .int .i64, .list [.int .i64]], .list [.int .i64]])]
def mu_laws_toAutomaton : MSig := []
def ag_laws_eqAutomaton : Sig := [(.agg, [.int .i64, .int .i64, .list [.int .i64], .list [.int .i64, .int .i64, .list [.int .i64]], .list [.int .i64]]), (.agg, [.int .i64, .int .i64, .list [.int .i64], .list [.int .i64, .int .i64, .list [.int .i64]], .list [.int .i64]])]
def rs_laws_eqAutomaton : Sig := [(.one, [.bool])]
def mu_laws_eqAutomaton : MSig := []
def ag_laws_szSite : Sig := [(.agg, [.int .i64, .int .i64, .int .i64, .list [.int .i64]]), (.one, [.int .i64])]
def rs_laws_szSite : Sig := [(.one, [.int .i64])]
def mu_laws_szSite : MSig := []
def ag_laws_toSite : Sig := [(.agg, [.int .i64, .int .i64, .int .i64, .list [.int .i64]])]
def rs_laws_toSite : Sig := [(.agg, [.int .i64, .int .i64, .int .i64, .list [.int .i64]])]
def mu_laws_toSite : MSig := []
def ag_laws_eqSite : Sig := [(.agg, [.int .i64, .int .i64, .int .i64, .list [.int .i64]]), (.agg, [.int .i64, .int .i64, .int .i64, .list [.int .i64]])]
def rs_laws_eqSite : Sig := [(.one, [.bool])]
def mu_laws_eqSite : MSig := []
def ag_laws_szSiteS : Sig := [(.one, [.list [.int .i64, .int .i64, .int .i64, .list [.int .i64]]]), (.one, [.int .i64])]
def rs_laws_szSiteS : Sig := [(.one, [.int .i64])]
def mu_laws_szSiteS : MSig := []
def ag_laws_toSiteS : Sig := [(.one, [.list [.int .i64, .int .i64, .int .i64, .list [.int .i64]]])]
def rs_laws_toSiteS : Sig := [(.one, [.list [.int .i64, .int .i64, .int .i64, .list [.int .i64]]])]
def mu_laws_toSiteS : MSig := []
def ag_laws_eqSiteS : Sig := [(.one, [.list [.int .i64, .int .i64, .int .i64, .list [.int .i64]]]), (.one, [.list [.int .i64, .int .i64, .int .i64, .list [.int .i64]]])]
def rs_laws_eqSiteS : Sig := [(.one, [.bool])]
def mu_laws_eqSiteS : MSig := []
def ag_laws_szChain : Sig := [(.agg, [.int .i64, .list [.int .i64, .int .i64, .int .i64, .list [.int .i64]]]), (.one, [.int .i64])]
def rs_laws_szChain : Sig := [(.one, [.int .i64])]
def mu_laws_szChain : MSig := []
def ag_laws_toChain : Sig := [(.agg, [.int .i64, .list [.int .i64, .int .i64, .int .i64, .list [.int .i64]]])]
def rs_laws_toChain : Sig := [(.agg, [.int .i64, .list [.int .i64, .int .i64, .int .i64, .list [.int .i64]]])]
def mu_laws_toChain : MSig := []
def ag_laws_eqChain : Sig := [(.agg, [.int .i64, .list [.int .i64, .int .i64, .int .i64, .list [.int .i64]]]), (.agg, [.int .i64, .list [.int .i64, .int .i64, .int .i64, .list [.int .i64]]])]
def rs_laws_eqChain : Sig := [(.one, [.bool])]
def mu_laws_eqChain : MSig := []
def ag_laws_szTensor : Sig := [(.agg, [.list [.int .i64], .list [.int .i64], .list [.int .i64]]), (.one, [.int .i64])]
def rs_laws_szTensor : Sig := [(.one, [.int .i64])]
def mu_laws_szTensor : MSig := []
def ag_laws_toTensor : Sig := [(.agg, [.list [.int .i64], .list [.int .i64], .list [.int .i64]])]
def rs_laws_toTensor : Sig := [(.agg, [.list [.int .i64], .list [.int .i64], .list [.int .i64]])]
def mu_laws_toTensor : MSig := []
def ag_laws_eqTensor : Sig := [(.agg, [.list [.int .i64], .list [.int .i64], .list [.int .i64]]), (.agg, [.list [.int .i64], .list [.int .i64], .list [.int .i64]])]
def rs_laws_eqTensor : Sig := [(.one, [.bool])]
def mu_laws_eqTensor : MSig := []
def ag_laws_szCharges : Sig := [(.agg, [.int .i64, .list [.list [.int .i64]]]), (.one, [.int .i64])]
def rs_laws_szCharges : Sig := [(.one, [.int .i64])]
def mu_laws_szCharges : MSig := []
def ag_laws_toCharges : Sig := [(.agg, [.int .i64, .list [.list [.int .i64]]])]
def rs_laws_toCharges : Sig := [(.agg, [.int .i64, .list [.list [.int .i64]]])]
def mu_laws_toCharges : MSig := []
def ag_laws_eqCharges : Sig := [(.agg, [.int .i64, .list [.list [.int .i64]]]), (.agg, [.int .i64, .list [.list [.int .i64]]])]
def rs_laws_eqCharges : Sig := [(.one, [.bool])]
def mu_laws_eqCharges : MSig := []
def ag_laws_toEdge : Sig := [(.agg, [.int .i64, .int .i64])]
def rs_laws_toEdge : Sig := [(.agg, [.int .i64, .int .i64])]
def mu_laws_toEdge : MSig := []
def ag_laws_eqEdge : Sig := [(.agg, [.int .i64, .int .i64]), (.agg, [.int .i64, .int .i64])]
def rs_laws_eqEdge : Sig := [(.one, [.bool])]
def mu_laws_eqEdge : MSig := []
def ag_laws_szEdgeS : Sig := [(.one, [.list [.int .i64, .int .i64]]), (.one, [.int .i64])]
def rs_laws_szEdgeS : Sig := [(.one, [.int .i64])]
def mu_laws_szEdgeS : MSig := []
def ag_laws_toEdgeS : Sig := [(.one, [.list [.int .i64, .int .i64]])]
def rs_laws_toEdgeS : Sig := [(.one, [.list [.int .i64, .int .i64]])]
def mu_laws_toEdgeS : MSig := []
def ag_laws_eqEdgeS : Sig := [(.one, [.list [.int .i64, .int .i64]]), (.one, [.list [.int .i64, .int .i64]])]
def rs_laws_eqEdgeS : Sig := [(.one, [.bool])]
def mu_laws_eqEdgeS : MSig := []
def ag_laws_szGraph : Sig := [(.agg, [.int .i64, .list [.int .i64, .int .i64]]), (.one, [.int .i64])]
def rs_laws_szGraph : Sig := [(.one, [.int .i64])]
def mu_laws_szGraph : MSig := []
def ag_laws_toGraph : Sig := [(.agg, [.int .i64, .list [.int .i64, .int .i64]])]
def rs_laws_toGraph : Sig := [(.agg, [.int .i64, .list [.int .i64, .int .i64]])]
def mu_laws_toGraph : MSig := []
def ag_laws_eqGraph : Sig := [(.agg, [.int .i64, .list [.int .i64, .int .i64]]), (.agg, [.int .i64, .list [.int .i64, .int .i64]])]
def rs_laws_eqGraph : Sig := [(.one, [.bool])]
def mu_laws_eqGraph : MSig := []
def ag_laws_markIntS : Sig := [(.one, [.list [.int .i64]]), (.one, [.int .i64])]
def rs_laws_markIntS : Sig := [(.one, [.int .i64]), (.one, [.list [.int .i64]])]
def mu_laws_markIntS : MSig := [[some .froz]]
def ag_laws_markIntSS : Sig := [(.one, [.list [.list [.int .i64]]]), (.one, [.int .i64])]
def rs_laws_markIntSS : Sig := [(.one, [.int .i64]), (.one, [.list [.list [.int .i64]]])]
def mu_laws_markIntSS : MSig := [[some .live]]
def ag_laws_markMatrix : Sig := [(.agg, [.int .i64, .int .i64, .list [.int .i64]]), (.one, [.int .i64])]
def rs_laws_markMatrix : Sig := [(.one, [.int .i64]), (.one, [.list [.int .i64]])]
def mu_laws_markMatrix : MSig := [[none, none, some .froz]]
def ag_laws_markMatrixS : Sig := [(.one, [.list [.int .i64, .int .i64, .list [.int .i64]]]), (.one, [.int .i64])]
def rs_laws_markMatrixS : Sig := [(.one, [.int .i64]), (.one, [.list [.int .i64, .int .i64, .list [.int .i64]]])]
def mu_laws_markMatrixS : MSig := [[some .live]]
def ag_laws_markAutomaton : Sig := [(.agg, [.int .i64, .int .i64, .list [.int .i64], .list [.int .i64, .int .i64, .list [.int .i64]], .list [.int .i64]]), (.one, [.int .i64])]
def rs_laws_markAutomaton : Sig := [(.one, [.int .i64]), (.one, [.list [.int .i64]]), (.one, [.list [.int .i64, .int .i64, .list [.int .i64]]]), (.one, [.list [.int .i64]])]
def mu_laws_markAutomaton : MSig := [[none, none, some .froz, some .live, some .froz]]
def ag_laws_markSiteS : Sig := [(.one, [.list [.int .i64, .int .i64, .int .i64, .list [.int .i64]]]), (.one, [.int .i64])]
def rs_laws_markSiteS : Sig := [(.one, [.int .i64]), (.one, [.list [.int .i64, .int .i64, .int .i64, .list [.int .i64]]])]
def mu_laws_markSiteS : MSig := [[some .live]]
def ag_laws_markChain : Sig := [(.agg, [.int .i64, .list [.int .i64, .int .i64, .int .i64, .list [.int .i64]]]), (.one, [.int .i64])]
def rs_laws_markChain : Sig := [(.one, [.int .i64]), (.one, [.list [.int .i64, .int .i64, .int .i64, .list [.int .i64]]])]
def mu_laws_markChain : MSig := [[none, some .live]]
def ag_laws_markTensor : Sig := [(.agg, [.list [.int .i64], .list [.int .i64], .list [.int .i64]]), (.one, [.int .i64])]
def rs_laws_markTensor : Sig := [(.one, [.int .i64]), (.one, [.list [.int .i64]]), (.one, [.list [.int .i64]]), (.one, [.list [.int .i64]])]
def mu_laws_markTensor : MSig := [[some .froz, some .froz, some .froz]]
def ag_laws_markCharges : Sig := [(.agg, [.int .i64, .list [.list [.int .i64]]]), (.one, [.int .i64])]
def rs_laws_markCharges : Sig := [(.one, [.int .i64]), (.one, [.list [.list [.int .i64]]])]
def mu_laws_markCharges : MSig := [[none, some .live]]
def ag_laws_markEdgeS : Sig := [(.one, [.list [.int .i64, .int .i64]]), (.one, [.int .i64])]
def rs_laws_markEdgeS : Sig := [(.one, [.int .i64]), (.one, [.list [.int .i64, .int .i64]])]
def mu_laws_markEdgeS : MSig := [[some .froz]]
def ag_laws_markGraph : Sig := [(.agg, [.int .i64, .list [.int .i64, .int .i64]]), (.one, [.int .i64])]
def rs_laws_markGraph : Sig := [(.one, [.int .i64]), (.one, [.list [.int .i64, .int .i64]])]
def mu_laws_markGraph : MSig := [[none, some .froz]]
def ag_laws_heldIntS : Sig := [(.one, [.list [.int .i64]]), (.one, [.int .i64])]
def rs_laws_heldIntS : Sig := [(.one, [.int .i64])]
def mu_laws_heldIntS : MSig := []
def ag_laws_heldIntSS : Sig := [(.one, [.list [.list [.int .i64]]]), (.one, [.int .i64])]
def rs_laws_heldIntSS : Sig := [(.one, [.int .i64])]
def mu_laws_heldIntSS : MSig := []
def ag_laws_heldMatrix : Sig := [(.agg, [.int .i64, .int .i64, .list [.int .i64]]), (.one, [.int .i64])]
def rs_laws_heldMatrix : Sig := [(.one, [.int .i64])]
def mu_laws_heldMatrix : MSig := []
def ag_laws_heldMatrixS : Sig := [(.one, [.list [.int .i64, .int .i64, .list [.int .i64]]]), (.one, [.int .i64])]
def rs_laws_heldMatrixS : Sig := [(.one, [.int .i64])]
def mu_laws_heldMatrixS : MSig := []
def ag_laws_heldAutomaton : Sig := [(.agg, [.int .i64, .int .i64, .list [.int .i64], .list [.int .i64, .int .i64, .list [.int .i64]], .list [.int .i64]]), (.one, [.int .i64])]
def rs_laws_heldAutomaton : Sig := [(.one, [.int .i64])]
def mu_laws_heldAutomaton : MSig := []
def ag_laws_heldSiteS : Sig := [(.one, [.list [.int .i64, .int .i64, .int .i64, .list [.int .i64]]]), (.one, [.int .i64])]
def rs_laws_heldSiteS : Sig := [(.one, [.int .i64])]
def mu_laws_heldSiteS : MSig := []
def ag_laws_heldChain : Sig := [(.agg, [.int .i64, .list [.int .i64, .int .i64, .int .i64, .list [.int .i64]]]), (.one, [.int .i64])]
def rs_laws_heldChain : Sig := [(.one, [.int .i64])]
def mu_laws_heldChain : MSig := []
def ag_laws_heldTensor : Sig := [(.agg, [.list [.int .i64], .list [.int .i64], .list [.int .i64]]), (.one, [.int .i64])]
def rs_laws_heldTensor : Sig := [(.one, [.int .i64])]
def mu_laws_heldTensor : MSig := []
def ag_laws_heldEdgeS : Sig := [(.one, [.list [.int .i64, .int .i64]]), (.one, [.int .i64])]
def rs_laws_heldEdgeS : Sig := [(.one, [.int .i64])]
def mu_laws_heldEdgeS : MSig := []
def ag_laws_heldGraph : Sig := [(.agg, [.int .i64, .list [.int .i64, .int .i64]]), (.one, [.int .i64])]
def rs_laws_heldGraph : Sig := [(.one, [.int .i64])]
def mu_laws_heldGraph : MSig := []

def G_laws_szIntS (NN : Nat) : ((List Int) × Int) → (Option Int) :=
  (fun ((l0, i1) : ((List Int) × Int)) =>
  cnd (ltI (subI .i64 i1 (natI (lenN l0))) (0 : Int))
    (some ((-1 : Int)))
    (some (subI .i64 i1 (natI (lenN l0)))))

def G_laws_toIntS (NN : Nat) : (List Int) → (Option (List Int)) :=
  (fun (l0 : (List Int)) =>
  (mkI (natI (lenN l0)) (natI (lenN l0)) 8).bnd (fun (k1 : Nat) =>
    joinK ((fulI 0 k1 (lenN (repL k1 (0 : Int)))).bnd (fun (_ : Unit) =>
        loopT NN (fun (((l2, i3), l4) : (((List Int) × Int) × (List Int))) =>
            cnd (ltI i3 (natI (lenN l2)))
              ((getI l2 i3).bnd (fun (i5 : Int) =>
                (chkI i3 (lenN l4)).bnd (fun (k6 : Nat) =>
                  (getN l4 (addN 0 k6)).bnd (fun (i7 : Int) =>
                    (fulI 0 (lenN l4) (lenN (setL l4 (addN 0 k6) i5))).bnd (fun (_ : Unit) =>
                      some (Sum.inl ((l2, addI .i64 i3 (1 : Int)), setL l4 (addN 0 k6) i5)))))))
              (((fulI 0 (lenN l4) (lenN l4)).bnd (fun (_ : Unit) =>
                some (Sum.inl l4))).bnd (fun (l8 : ((List Int) ⊕ (List Int))) =>
                some (Sum.inr l8))))
          ((l0, (0 : Int)), repL k1 (0 : Int))))
      (fun (l9 : (List Int)) =>
        (takI l9 (lenN l9)).bnd (fun (l10 : (List Int)) =>
          some l10))))

def G_laws_eqIntS (NN : Nat) : ((List Int) × (List Int)) → (Option Bool) :=
  (fun ((l0, l1) : ((List Int) × (List Int))) =>
  cnd (neI (natI (lenN l0)) (natI (lenN l1)))
    (some false)
    (joinK (loopT NN (fun ((l2, l3, i4) : ((List Int) × ((List Int) × Int))) =>
          cnd (ltI i4 (natI (lenN l2)))
            ((getI l2 i4).bnd (fun (i5 : Int) =>
              (getI l3 i4).bnd (fun (i6 : Int) =>
                cnd (neI i5 i6)
                  (some (Sum.inr (Sum.inr false)))
                  (some (Sum.inl (l2, l3, addI .i64 i4 (1 : Int)))))))
            (some (Sum.inr (Sum.inl ()))))
        (l0, l1, (0 : Int)))
      (fun (_ : Unit) =>
        some true)))

def G_laws_szIntSS (NN : Nat) : ((List (List Int)) × Int) → (Option Int) :=
  (fun ((l0, i1) : ((List (List Int)) × Int)) =>
  cnd (ltI (subI .i64 i1 (natI (lenN l0))) (0 : Int))
    (some ((-1 : Int)))
    (joinK (loopT NN (fun ((l2, i3, i4) : ((List (List Int)) × (Int × Int))) =>
          cnd (ltI i4 (natI (lenN l2)))
            ((getI l2 i4).bnd (fun (l5 : (List Int)) =>
              (F_laws_szIntS (l5, i3)).bnd (fun (i6 : Int) =>
                cnd (ltI i6 (0 : Int))
                  (some (Sum.inr (Sum.inr ((-1 : Int)))))
                  (some (Sum.inl (l2, i6, addI .i64 i4 (1 : Int)))))))
            (some (Sum.inr (Sum.inl i3))))
        (l0, subI .i64 i1 (natI (lenN l0)), (0 : Int)))
      (fun (i7 : Int) =>
        some i7)))

def G_laws_toIntSS (NN : Nat) : (List (List Int)) → (Option (List (List Int))) :=
  (fun (l0 : (List (List Int))) =>
  (mkI (natI (lenN l0)) (natI (lenN l0)) 24).bnd (fun (k1 : Nat) =>
    joinK ((fulI 0 k1 (lenN (repL k1 (([] : List Int))))).bnd (fun (_ : Unit) =>
        loopT NN (fun (((l2, i3), l4) : (((List (List Int)) × Int) × (List (List Int)))) =>
            cnd (ltI i3 (natI (lenN l2)))
              ((getI l2 i3).bnd (fun (l5 : (List Int)) =>
                (F_laws_toIntS l5).bnd (fun (l6 : (List Int)) =>
                  (chkI i3 (lenN l4)).bnd (fun (k7 : Nat) =>
                    (getN l4 (addN 0 k7)).bnd (fun (l8 : (List Int)) =>
                      (takI l6 (lenN l6)).bnd (fun (l9 : (List Int)) =>
                        (fulI 0 (lenN l4) (lenN (setL l4 (addN 0 k7) l9))).bnd (fun (_ : Unit) =>
                          some (Sum.inl ((l2, addI .i64 i3 (1 : Int)), setL l4 (addN 0 k7) l9)))))))))
              (((fulI 0 (lenN l4) (lenN l4)).bnd (fun (_ : Unit) =>
                some (Sum.inl l4))).bnd (fun (l10 : ((List (List Int)) ⊕ (List (List Int)))) =>
                some (Sum.inr l10))))
          ((l0, (0 : Int)), repL k1 (([] : List Int)))))
      (fun (l11 : (List (List Int))) =>
        (takI l11 (lenN l11)).bnd (fun (l12 : (List (List Int))) =>
          some l12))))

def G_laws_eqIntSS (NN : Nat) : ((List (List Int)) × (List (List Int))) → (Option Bool) :=
  (fun ((l0, l1) : ((List (List Int)) × (List (List Int)))) =>
  cnd (neI (natI (lenN l0)) (natI (lenN l1)))
    (some false)
    (joinK (loopT NN (fun ((l2, l3, i4) : ((List (List Int)) × ((List (List Int)) × Int))) =>
          cnd (ltI i4 (natI (lenN l2)))
            ((getI l2 i4).bnd (fun (l5 : (List Int)) =>
              (getI l3 i4).bnd (fun (l6 : (List Int)) =>
                (F_laws_eqIntS (l5, l6)).bnd (fun (b7 : Bool) =>
                  cnd (notB b7)
                    (some (Sum.inr (Sum.inr false)))
                    (some (Sum.inl (l2, l3, addI .i64 i4 (1 : Int))))))))
            (some (Sum.inr (Sum.inl ()))))
        (l0, l1, (0 : Int)))
      (fun (_ : Unit) =>
        some true)))

def G_laws_szMatrix (NN : Nat) : ((Int × (Int × (List Int))) × Int) → (Option Int) :=
  (fun (((i0, i1, l2), i3) : ((Int × (Int × (List Int))) × Int)) =>
  (F_laws_szIntS (l2, i3)).bnd (fun (i4 : Int) =>
    cnd (ltI i4 (0 : Int))
      (some ((-1 : Int)))
      (some i4)))

def G_laws_toMatrix (NN : Nat) : (Int × (Int × (List Int))) → (Option (Int × (Int × (List Int)))) :=
  (fun ((i0, i1, l2) : (Int × (Int × (List Int)))) =>
  (F_laws_toIntS l2).bnd (fun (l3 : (List Int)) =>
    (takI l3 (lenN l3)).bnd (fun (l4 : (List Int)) =>
      some (i0, i1, l4))))

def G_laws_eqMatrix (NN : Nat) : ((Int × (Int × (List Int))) × (Int × (Int × (List Int)))) → (Option Bool) :=
  (fun (((i0, i1, l2), i3, i4, l5) : ((Int × (Int × (List Int))) × (Int × (Int × (List Int))))) =>
  cnd (neI i0 i3)
    (some false)
    (cnd (neI i1 i4)
      (some false)
      ((F_laws_eqIntS (l2, l5)).bnd (fun (b6 : Bool) =>
        cnd (notB b6)
          (some false)
          (some true)))))

def G_laws_szMatrixS (NN : Nat) : ((List (Int × (Int × (List Int)))) × Int) → (Option Int) :=
  (fun ((l0, i1) : ((List (Int × (Int × (List Int)))) × Int)) =>
  cnd (ltI (subI .i64 i1 (natI (lenN l0))) (0 : Int))
    (some ((-1 : Int)))
    (joinK (loopT NN (fun ((l2, i3, i4) : ((List (Int × (Int × (List Int)))) × (Int × Int))) =>
          cnd (ltI i4 (natI (lenN l2)))
            ((getI l2 i4).bnd (fun ((i5, i6, l7) : (Int × (Int × (List Int)))) =>
              (F_laws_szMatrix ((i5, i6, l7), i3)).bnd (fun (i8 : Int) =>
                cnd (ltI i8 (0 : Int))
                  (some (Sum.inr (Sum.inr ((-1 : Int)))))
                  (some (Sum.inl (l2, i8, addI .i64 i4 (1 : Int)))))))
            (some (Sum.inr (Sum.inl i3))))
        (l0, subI .i64 i1 (natI (lenN l0)), (0 : Int)))
      (fun (i9 : Int) =>
        some i9)))

def G_laws_toMatrixS (NN : Nat) : (List (Int × (Int × (List Int)))) → (Option (List (Int × (Int × (List Int))))) :=
  (fun (l0 : (List (Int × (Int × (List Int))))) =>
  (mkI (natI (lenN l0)) (natI (lenN l0)) 40).bnd (fun (k1 : Nat) =>
    joinK ((fulI 0 k1 (lenN (repL k1 ((0 : Int), (0 : Int), ([] : List Int))))).bnd (fun (_ : Unit) =>
        loopT NN (fun (((l2, i3), l4) : (((List (Int × (Int × (List Int)))) × Int) × (List (Int × (Int × (List Int)))))) =>
            cnd (ltI i3 (natI (lenN l2)))
              ((getI l2 i3).bnd (fun ((i5, i6, l7) : (Int × (Int × (List Int)))) =>
                (F_laws_toMatrix (i5, i6, l7)).bnd (fun ((i8, i9, l10) : (Int × (Int × (List Int)))) =>
                  (chkI i3 (lenN l4)).bnd (fun (k11 : Nat) =>
                    (getN l4 (addN 0 k11)).bnd (fun ((i12, i13, l14) : (Int × (Int × (List Int)))) =>
                      (takI l10 (lenN l10)).bnd (fun (l15 : (List Int)) =>
                        (fulI 0 (lenN l4) (lenN (setL l4 (addN 0 k11) (i8, i9, l15)))).bnd (fun (_ : Unit) =>
                          some (Sum.inl ((l2, addI .i64 i3 (1 : Int)), setL l4 (addN 0 k11) (i8, i9, l15))))))))))
              (((fulI 0 (lenN l4) (lenN l4)).bnd (fun (_ : Unit) =>
                some (Sum.inl l4))).bnd (fun (l16 : ((List (Int × (Int × (List Int)))) ⊕ (List (Int × (Int × (List Int)))))) =>
                some (Sum.inr l16))))
          ((l0, (0 : Int)), repL k1 ((0 : Int), (0 : Int), ([] : List Int)))))
      (fun (l17 : (List (Int × (Int × (List Int))))) =>
        (takI l17 (lenN l17)).bnd (fun (l18 : (List (Int × (Int × (List Int))))) =>
          some l18))))

def G_laws_eqMatrixS (NN : Nat) : ((List (Int × (Int × (List Int)))) × (List (Int × (Int × (List Int))))) → (Option Bool) :=
  (fun ((l0, l1) : ((List (Int × (Int × (List Int)))) × (List (Int × (Int × (List Int)))))) =>
  cnd (neI (natI (lenN l0)) (natI (lenN l1)))
    (some false)
    (joinK (loopT NN (fun ((l2, l3, i4) : ((List (Int × (Int × (List Int)))) × ((List (Int × (Int × (List Int)))) × Int))) =>
          cnd (ltI i4 (natI (lenN l2)))
            ((getI l2 i4).bnd (fun ((i5, i6, l7) : (Int × (Int × (List Int)))) =>
              (getI l3 i4).bnd (fun ((i8, i9, l10) : (Int × (Int × (List Int)))) =>
                (F_laws_eqMatrix ((i5, i6, l7), i8, i9, l10)).bnd (fun (b11 : Bool) =>
                  cnd (notB b11)
                    (some (Sum.inr (Sum.inr false)))
                    (some (Sum.inl (l2, l3, addI .i64 i4 (1 : Int))))))))
            (some (Sum.inr (Sum.inl ()))))
        (l0, l1, (0 : Int)))
      (fun (_ : Unit) =>
        some true)))

def G_laws_szAutomaton (NN : Nat) : ((Int × (Int × ((List Int) × ((List (Int × (Int × (List Int)))) × (List Int))))) × Int) → (Option Int) :=
  (fun (((i0, i1, l2, l3, l4), i5) : ((Int × (Int × ((List Int) × ((List (Int × (Int × (List Int)))) × (List Int))))) × Int)) =>
  (F_laws_szIntS (l2, i5)).bnd (fun (i6 : Int) =>
    cnd (ltI i6 (0 : Int))
      (some ((-1 : Int)))
      ((F_laws_szMatrixS (l3, i6)).bnd (fun (i7 : Int) =>
        cnd (ltI i7 (0 : Int))
          (some ((-1 : Int)))
          ((F_laws_szIntS (l4, i7)).bnd (fun (i8 : Int) =>
            cnd (ltI i8 (0 : Int))
              (some ((-1 : Int)))
              (some i8)))))))

def G_laws_toAutomaton (NN : Nat) : (Int × (Int × ((List Int) × ((List (Int × (Int × (List Int)))) × (List Int))))) → (Option (Int × (Int × ((List Int) × ((List (Int × (Int × (List Int)))) × (List Int)))))) :=
  (fun ((i0, i1, l2, l3, l4) : (Int × (Int × ((List Int) × ((List (Int × (Int × (List Int)))) × (List Int)))))) =>
  (F_laws_toIntS l2).bnd (fun (l5 : (List Int)) =>
    (F_laws_toMatrixS l3).bnd (fun (l6 : (List (Int × (Int × (List Int))))) =>
      (F_laws_toIntS l4).bnd (fun (l7 : (List Int)) =>
        (takI l5 (lenN l5)).bnd (fun (l8 : (List Int)) =>
          (takI l6 (lenN l6)).bnd (fun (l9 : (List (Int × (Int × (List Int))))) =>
            (takI l7 (lenN l7)).bnd (fun (l10 : (List Int)) =>
              some (i0, i1, l8, l9, l10))))))))

def G_laws_eqAutomaton (NN : Nat) : ((Int × (Int × ((List Int) × ((List (Int × (Int × (List Int)))) × (List Int))))) × (Int × (Int × ((List Int) × ((List (Int × (Int × (List Int)))) × (List Int)))))) → (Option Bool) :=
  (fun (((i0, i1, l2, l3, l4), i5, i6, l7, l8, l9) : ((Int × (Int × ((List Int) × ((List (Int × (Int × (List Int)))) × (List Int))))) × (Int × (Int × ((List Int) × ((List (Int × (Int × (List Int)))) × (List Int))))))) =>
  cnd (neI i0 i5)
    (some false)
    (cnd (neI i1 i6)
      (some false)
      ((F_laws_eqIntS (l2, l7)).bnd (fun (b10 : Bool) =>
        cnd (notB b10)
          (some false)
          ((F_laws_eqMatrixS (l3, l8)).bnd (fun (b11 : Bool) =>
            cnd (notB b11)
              (some false)
              ((F_laws_eqIntS (l4, l9)).bnd (fun (b12 : Bool) =>
                cnd (notB b12)
                  (some false)
                  (some true)))))))))

def G_laws_szSite (NN : Nat) : ((Int × (Int × (Int × (List Int)))) × Int) → (Option Int) :=
  (fun (((i0, i1, i2, l3), i4) : ((Int × (Int × (Int × (List Int)))) × Int)) =>
  (F_laws_szIntS (l3, i4)).bnd (fun (i5 : Int) =>
    cnd (ltI i5 (0 : Int))
      (some ((-1 : Int)))
      (some i5)))

def G_laws_toSite (NN : Nat) : (Int × (Int × (Int × (List Int)))) → (Option (Int × (Int × (Int × (List Int))))) :=
  (fun ((i0, i1, i2, l3) : (Int × (Int × (Int × (List Int))))) =>
  (F_laws_toIntS l3).bnd (fun (l4 : (List Int)) =>
    (takI l4 (lenN l4)).bnd (fun (l5 : (List Int)) =>
      some (i0, i1, i2, l5))))

def G_laws_eqSite (NN : Nat) : ((Int × (Int × (Int × (List Int)))) × (Int × (Int × (Int × (List Int))))) → (Option Bool) :=
  (fun (((i0, i1, i2, l3), i4, i5, i6, l7) : ((Int × (Int × (Int × (List Int)))) × (Int × (Int × (Int × (List Int)))))) =>
  cnd (neI i0 i4)
    (some false)
    (cnd (neI i1 i5)
      (some false)
      (cnd (neI i2 i6)
        (some false)
        ((F_laws_eqIntS (l3, l7)).bnd (fun (b8 : Bool) =>
          cnd (notB b8)
            (some false)
            (some true))))))

def G_laws_szSiteS (NN : Nat) : ((List (Int × (Int × (Int × (List Int))))) × Int) → (Option Int) :=
  (fun ((l0, i1) : ((List (Int × (Int × (Int × (List Int))))) × Int)) =>
  cnd (ltI (subI .i64 i1 (natI (lenN l0))) (0 : Int))
    (some ((-1 : Int)))
    (joinK (loopT NN (fun ((l2, i3, i4) : ((List (Int × (Int × (Int × (List Int))))) × (Int × Int))) =>
          cnd (ltI i4 (natI (lenN l2)))
            ((getI l2 i4).bnd (fun ((i5, i6, i7, l8) : (Int × (Int × (Int × (List Int))))) =>
              (F_laws_szSite ((i5, i6, i7, l8), i3)).bnd (fun (i9 : Int) =>
                cnd (ltI i9 (0 : Int))
                  (some (Sum.inr (Sum.inr ((-1 : Int)))))
                  (some (Sum.inl (l2, i9, addI .i64 i4 (1 : Int)))))))
            (some (Sum.inr (Sum.inl i3))))
        (l0, subI .i64 i1 (natI (lenN l0)), (0 : Int)))
      (fun (i10 : Int) =>
        some i10)))

def G_laws_toSiteS (NN : Nat) : (List (Int × (Int × (Int × (List Int))))) → (Option (List (Int × (Int × (Int × (List Int)))))) :=
  (fun (l0 : (List (Int × (Int × (Int × (List Int)))))) =>
  (mkI (natI (lenN l0)) (natI (lenN l0)) 48).bnd (fun (k1 : Nat) =>
    joinK ((fulI 0 k1 (lenN (repL k1 ((0 : Int), (0 : Int), (0 : Int), ([] : List Int))))).bnd (fun (_ : Unit) =>
        loopT NN (fun (((l2, i3), l4) : (((List (Int × (Int × (Int × (List Int))))) × Int) × (List (Int × (Int × (Int × (List Int))))))) =>
            cnd (ltI i3 (natI (lenN l2)))
              ((getI l2 i3).bnd (fun ((i5, i6, i7, l8) : (Int × (Int × (Int × (List Int))))) =>
                (F_laws_toSite (i5, i6, i7, l8)).bnd (fun ((i9, i10, i11, l12) : (Int × (Int × (Int × (List Int))))) =>
                  (chkI i3 (lenN l4)).bnd (fun (k13 : Nat) =>
                    (getN l4 (addN 0 k13)).bnd (fun ((i14, i15, i16, l17) : (Int × (Int × (Int × (List Int))))) =>
                      (takI l12 (lenN l12)).bnd (fun (l18 : (List Int)) =>
                        (fulI 0 (lenN l4) (lenN (setL l4 (addN 0 k13) (i9, i10, i11, l18)))).bnd (fun (_ : Unit) =>
                          some (Sum.inl ((l2, addI .i64 i3 (1 : Int)), setL l4 (addN 0 k13) (i9, i10, i11, l18))))))))))
              (((fulI 0 (lenN l4) (lenN l4)).bnd (fun (_ : Unit) =>
                some (Sum.inl l4))).bnd (fun (l19 : ((List (Int × (Int × (Int × (List Int))))) ⊕ (List (Int × (Int × (Int × (List Int))))))) =>
                some (Sum.inr l19))))
          ((l0, (0 : Int)), repL k1 ((0 : Int), (0 : Int), (0 : Int), ([] : List Int)))))
      (fun (l20 : (List (Int × (Int × (Int × (List Int)))))) =>
        (takI l20 (lenN l20)).bnd (fun (l21 : (List (Int × (Int × (Int × (List Int)))))) =>
          some l21))))

def G_laws_eqSiteS (NN : Nat) : ((List (Int × (Int × (Int × (List Int))))) × (List (Int × (Int × (Int × (List Int)))))) → (Option Bool) :=
  (fun ((l0, l1) : ((List (Int × (Int × (Int × (List Int))))) × (List (Int × (Int × (Int × (List Int))))))) =>
  cnd (neI (natI (lenN l0)) (natI (lenN l1)))
    (some false)
    (joinK (loopT NN (fun ((l2, l3, i4) : ((List (Int × (Int × (Int × (List Int))))) × ((List (Int × (Int × (Int × (List Int))))) × Int))) =>
          cnd (ltI i4 (natI (lenN l2)))
            ((getI l2 i4).bnd (fun ((i5, i6, i7, l8) : (Int × (Int × (Int × (List Int))))) =>
              (getI l3 i4).bnd (fun ((i9, i10, i11, l12) : (Int × (Int × (Int × (List Int))))) =>
                (F_laws_eqSite ((i5, i6, i7, l8), i9, i10, i11, l12)).bnd (fun (b13 : Bool) =>
                  cnd (notB b13)
                    (some (Sum.inr (Sum.inr false)))
                    (some (Sum.inl (l2, l3, addI .i64 i4 (1 : Int))))))))
            (some (Sum.inr (Sum.inl ()))))
        (l0, l1, (0 : Int)))
      (fun (_ : Unit) =>
        some true)))

def G_laws_szChain (NN : Nat) : ((Int × (List (Int × (Int × (Int × (List Int)))))) × Int) → (Option Int) :=
  (fun (((i0, l1), i2) : ((Int × (List (Int × (Int × (Int × (List Int)))))) × Int)) =>
  (F_laws_szSiteS (l1, i2)).bnd (fun (i3 : Int) =>
    cnd (ltI i3 (0 : Int))
      (some ((-1 : Int)))
      (some i3)))

def G_laws_toChain (NN : Nat) : (Int × (List (Int × (Int × (Int × (List Int)))))) → (Option (Int × (List (Int × (Int × (Int × (List Int))))))) :=
  (fun ((i0, l1) : (Int × (List (Int × (Int × (Int × (List Int))))))) =>
  (F_laws_toSiteS l1).bnd (fun (l2 : (List (Int × (Int × (Int × (List Int)))))) =>
    (takI l2 (lenN l2)).bnd (fun (l3 : (List (Int × (Int × (Int × (List Int)))))) =>
      some (i0, l3))))

def G_laws_eqChain (NN : Nat) : ((Int × (List (Int × (Int × (Int × (List Int)))))) × (Int × (List (Int × (Int × (Int × (List Int))))))) → (Option Bool) :=
  (fun (((i0, l1), i2, l3) : ((Int × (List (Int × (Int × (Int × (List Int)))))) × (Int × (List (Int × (Int × (Int × (List Int)))))))) =>
  cnd (neI i0 i2)
    (some false)
    ((F_laws_eqSiteS (l1, l3)).bnd (fun (b4 : Bool) =>
      cnd (notB b4)
        (some false)
        (some true))))

def G_laws_szTensor (NN : Nat) : (((List Int) × ((List Int) × (List Int))) × Int) → (Option Int) :=
  (fun (((l0, l1, l2), i3) : (((List Int) × ((List Int) × (List Int))) × Int)) =>
  (F_laws_szIntS (l0, i3)).bnd (fun (i4 : Int) =>
    cnd (ltI i4 (0 : Int))
      (some ((-1 : Int)))
      ((F_laws_szIntS (l1, i4)).bnd (fun (i5 : Int) =>
        cnd (ltI i5 (0 : Int))
          (some ((-1 : Int)))
          ((F_laws_szIntS (l2, i5)).bnd (fun (i6 : Int) =>
            cnd (ltI i6 (0 : Int))
              (some ((-1 : Int)))
              (some i6)))))))

def G_laws_toTensor (NN : Nat) : ((List Int) × ((List Int) × (List Int))) → (Option ((List Int) × ((List Int) × (List Int)))) :=
  (fun ((l0, l1, l2) : ((List Int) × ((List Int) × (List Int)))) =>
  (F_laws_toIntS l0).bnd (fun (l3 : (List Int)) =>
    (F_laws_toIntS l1).bnd (fun (l4 : (List Int)) =>
      (F_laws_toIntS l2).bnd (fun (l5 : (List Int)) =>
        (takI l3 (lenN l3)).bnd (fun (l6 : (List Int)) =>
          (takI l4 (lenN l4)).bnd (fun (l7 : (List Int)) =>
            (takI l5 (lenN l5)).bnd (fun (l8 : (List Int)) =>
              some (l6, l7, l8))))))))

def G_laws_eqTensor (NN : Nat) : (((List Int) × ((List Int) × (List Int))) × ((List Int) × ((List Int) × (List Int)))) → (Option Bool) :=
  (fun (((l0, l1, l2), l3, l4, l5) : (((List Int) × ((List Int) × (List Int))) × ((List Int) × ((List Int) × (List Int))))) =>
  (F_laws_eqIntS (l0, l3)).bnd (fun (b6 : Bool) =>
    cnd (notB b6)
      (some false)
      ((F_laws_eqIntS (l1, l4)).bnd (fun (b7 : Bool) =>
        cnd (notB b7)
          (some false)
          ((F_laws_eqIntS (l2, l5)).bnd (fun (b8 : Bool) =>
            cnd (notB b8)
              (some false)
              (some true)))))))

def G_laws_szCharges (NN : Nat) : ((Int × (List (List Int))) × Int) → (Option Int) :=
  (fun (((i0, l1), i2) : ((Int × (List (List Int))) × Int)) =>
  (F_laws_szIntSS (l1, i2)).bnd (fun (i3 : Int) =>
    cnd (ltI i3 (0 : Int))
      (some ((-1 : Int)))
      (some i3)))

def G_laws_toCharges (NN : Nat) : (Int × (List (List Int))) → (Option (Int × (List (List Int)))) :=
  (fun ((i0, l1) : (Int × (List (List Int)))) =>
  (F_laws_toIntSS l1).bnd (fun (l2 : (List (List Int))) =>
    (takI l2 (lenN l2)).bnd (fun (l3 : (List (List Int))) =>
      some (i0, l3))))

def G_laws_eqCharges (NN : Nat) : ((Int × (List (List Int))) × (Int × (List (List Int)))) → (Option Bool) :=
  (fun (((i0, l1), i2, l3) : ((Int × (List (List Int))) × (Int × (List (List Int))))) =>
  cnd (neI i0 i2)
    (some false)
    ((F_laws_eqIntSS (l1, l3)).bnd (fun (b4 : Bool) =>
      cnd (notB b4)
        (some false)
        (some true))))

def G_laws_toEdge (NN : Nat) : (Int × Int) → (Option (Int × Int)) :=
  (fun ((i0, i1) : (Int × Int)) =>
  some (i0, i1))

def G_laws_eqEdge (NN : Nat) : ((Int × Int) × (Int × Int)) → (Option Bool) :=
  (fun (((i0, i1), i2, i3) : ((Int × Int) × (Int × Int))) =>
  cnd (neI i0 i2)
    (some false)
    (cnd (neI i1 i3)
      (some false)
      (some true)))

def G_laws_szEdgeS (NN : Nat) : ((List (Int × Int)) × Int) → (Option Int) :=
  (fun ((l0, i1) : ((List (Int × Int)) × Int)) =>
  cnd (ltI (subI .i64 i1 (natI (lenN l0))) (0 : Int))
    (some ((-1 : Int)))
    (some (subI .i64 i1 (natI (lenN l0)))))

def G_laws_toEdgeS (NN : Nat) : (List (Int × Int)) → (Option (List (Int × Int))) :=
  (fun (l0 : (List (Int × Int))) =>
  (mkI (natI (lenN l0)) (natI (lenN l0)) 16).bnd (fun (k1 : Nat) =>
    joinK ((fulI 0 k1 (lenN (repL k1 ((0 : Int), (0 : Int))))).bnd (fun (_ : Unit) =>
        loopT NN (fun (((l2, i3), l4) : (((List (Int × Int)) × Int) × (List (Int × Int)))) =>
            cnd (ltI i3 (natI (lenN l2)))
              ((getI l2 i3).bnd (fun ((i5, i6) : (Int × Int)) =>
                (F_laws_toEdge (i5, i6)).bnd (fun ((i7, i8) : (Int × Int)) =>
                  (chkI i3 (lenN l4)).bnd (fun (k9 : Nat) =>
                    (getN l4 (addN 0 k9)).bnd (fun ((i10, i11) : (Int × Int)) =>
                      (fulI 0 (lenN l4) (lenN (setL l4 (addN 0 k9) (i7, i8)))).bnd (fun (_ : Unit) =>
                        some (Sum.inl ((l2, addI .i64 i3 (1 : Int)), setL l4 (addN 0 k9) (i7, i8)))))))))
              (((fulI 0 (lenN l4) (lenN l4)).bnd (fun (_ : Unit) =>
                some (Sum.inl l4))).bnd (fun (l12 : ((List (Int × Int)) ⊕ (List (Int × Int)))) =>
                some (Sum.inr l12))))
          ((l0, (0 : Int)), repL k1 ((0 : Int), (0 : Int)))))
      (fun (l13 : (List (Int × Int))) =>
        (takI l13 (lenN l13)).bnd (fun (l14 : (List (Int × Int))) =>
          some l14))))

def G_laws_eqEdgeS (NN : Nat) : ((List (Int × Int)) × (List (Int × Int))) → (Option Bool) :=
  (fun ((l0, l1) : ((List (Int × Int)) × (List (Int × Int)))) =>
  cnd (neI (natI (lenN l0)) (natI (lenN l1)))
    (some false)
    (joinK (loopT NN (fun ((l2, l3, i4) : ((List (Int × Int)) × ((List (Int × Int)) × Int))) =>
          cnd (ltI i4 (natI (lenN l2)))
            ((getI l2 i4).bnd (fun ((i5, i6) : (Int × Int)) =>
              (getI l3 i4).bnd (fun ((i7, i8) : (Int × Int)) =>
                (F_laws_eqEdge ((i5, i6), i7, i8)).bnd (fun (b9 : Bool) =>
                  cnd (notB b9)
                    (some (Sum.inr (Sum.inr false)))
                    (some (Sum.inl (l2, l3, addI .i64 i4 (1 : Int))))))))
            (some (Sum.inr (Sum.inl ()))))
        (l0, l1, (0 : Int)))
      (fun (_ : Unit) =>
        some true)))

def G_laws_szGraph (NN : Nat) : ((Int × (List (Int × Int))) × Int) → (Option Int) :=
  (fun (((i0, l1), i2) : ((Int × (List (Int × Int))) × Int)) =>
  (F_laws_szEdgeS (l1, i2)).bnd (fun (i3 : Int) =>
    cnd (ltI i3 (0 : Int))
      (some ((-1 : Int)))
      (some i3)))

def G_laws_toGraph (NN : Nat) : (Int × (List (Int × Int))) → (Option (Int × (List (Int × Int)))) :=
  (fun ((i0, l1) : (Int × (List (Int × Int)))) =>
  (F_laws_toEdgeS l1).bnd (fun (l2 : (List (Int × Int))) =>
    (takI l2 (lenN l2)).bnd (fun (l3 : (List (Int × Int))) =>
      some (i0, l3))))

def G_laws_eqGraph (NN : Nat) : ((Int × (List (Int × Int))) × (Int × (List (Int × Int)))) → (Option Bool) :=
  (fun (((i0, l1), i2, l3) : ((Int × (List (Int × Int))) × (Int × (List (Int × Int))))) =>
  cnd (neI i0 i2)
    (some false)
    ((F_laws_eqEdgeS (l1, l3)).bnd (fun (b4 : Bool) =>
      cnd (notB b4)
        (some false)
        (some true))))

def G_laws_markIntS (NN : Nat) : ((List Int) × Int) → (Option (Int × (List Int))) :=
  (fun ((l0, i1) : ((List Int) × Int)) =>
  joinK ((fulI 0 (lenN l0) (lenN l0)).bnd (fun (_ : Unit) =>
      loopT NN (fun (((i2, i3), l4) : ((Int × Int) × (List Int))) =>
          cnd (ltI i3 (natI (lenN l4)))
            ((chkI i3 (lenN l4)).bnd (fun (k5 : Nat) =>
              (getN l4 (addN 0 k5)).bnd (fun (i6 : Int) =>
                (fulI 0 (lenN l4) (lenN (setL l4 (addN 0 k5) i2))).bnd (fun (_ : Unit) =>
                  some (Sum.inl ((addI .i64 i2 (1 : Int), addI .i64 i3 (1 : Int)), setL l4 (addN 0 k5) i2))))))
            (some (Sum.inr (Sum.inl (i2, l4)))))
        ((i1, (0 : Int)), l0)))
    (fun ((i7, l8) : (Int × (List Int))) =>
      (samI (lenN l8) (lenN l0)).bnd (fun (_ : Unit) =>
        some (i7, l8))))

def G_laws_markIntSS (NN : Nat) : ((List (List Int)) × Int) → (Option (Int × (List (List Int)))) :=
  (fun ((l0, i1) : ((List (List Int)) × Int)) =>
  joinK ((fulI 0 (lenN l0) (lenN l0)).bnd (fun (_ : Unit) =>
      loopT NN (fun (((i2, i3), l4) : ((Int × Int) × (List (List Int)))) =>
          cnd (ltI i3 (natI (lenN l4)))
            ((chkI i3 (lenN l4)).bnd (fun (k5 : Nat) =>
              (getN l4 (addN 0 k5)).bnd (fun (l6 : (List Int)) =>
                (getN l4 (addN 0 k5)).bnd (fun (l7 : (List Int)) =>
                  (F_laws_markIntS (l7, i2)).bnd (fun ((i8, l9) : (Int × (List Int))) =>
                    (getN l4 (addN 0 k5)).bnd (fun (l10 : (List Int)) =>
                      (fulI 0 (lenN l4) (lenN (setL l4 (addN 0 k5) l9))).bnd (fun (_ : Unit) =>
                        some (Sum.inl ((i8, addI .i64 i3 (1 : Int)), setL l4 (addN 0 k5) l9)))))))))
            (some (Sum.inr (Sum.inl (i2, l4)))))
        ((i1, (0 : Int)), l0)))
    (fun ((i11, l12) : (Int × (List (List Int)))) =>
      (samI (lenN l12) (lenN l0)).bnd (fun (_ : Unit) =>
        some (i11, l12))))

def G_laws_markMatrix (NN : Nat) : ((Int × (Int × (List Int))) × Int) → (Option (Int × (List Int))) :=
  (fun (((i0, i1, l2), i3) : ((Int × (Int × (List Int))) × Int)) =>
  (fulI 0 (lenN l2) (lenN l2)).bnd (fun (_ : Unit) =>
    (F_laws_markIntS (l2, i3)).bnd (fun ((i4, l5) : (Int × (List Int))) =>
      (samI (lenN l5) (lenN l2)).bnd (fun (_ : Unit) =>
        some (i4, l5)))))

def G_laws_markMatrixS (NN : Nat) : ((List (Int × (Int × (List Int)))) × Int) → (Option (Int × (List (Int × (Int × (List Int)))))) :=
  (fun ((l0, i1) : ((List (Int × (Int × (List Int)))) × Int)) =>
  joinK ((fulI 0 (lenN l0) (lenN l0)).bnd (fun (_ : Unit) =>
      loopT NN (fun (((i2, i3), l4) : ((Int × Int) × (List (Int × (Int × (List Int)))))) =>
          cnd (ltI i3 (natI (lenN l4)))
            ((chkI i3 (lenN l4)).bnd (fun (k5 : Nat) =>
              (getN l4 (addN 0 k5)).bnd (fun ((i6, i7, l8) : (Int × (Int × (List Int)))) =>
                (chkI i3 (lenN l4)).bnd (fun (k9 : Nat) =>
                  (getN (setL l4 (addN 0 k5) (i2, i7, l8)) (addN 0 k9)).bnd (fun ((i10, i11, l12) : (Int × (Int × (List Int)))) =>
                    (chkI i3 (lenN l4)).bnd (fun (k13 : Nat) =>
                      (getN (setL (setL l4 (addN 0 k5) (i2, i7, l8)) (addN 0 k9) (i10, addI .i64 i2 (1 : Int), l12)) (addN 0 k13)).bnd (fun ((i14, i15, l16) : (Int × (Int × (List Int)))) =>
                        (getN (setL (setL l4 (addN 0 k5) (i2, i7, l8)) (addN 0 k9) (i10, addI .i64 i2 (1 : Int), l12)) (addN 0 k13)).bnd (fun ((i17, i18, l19) : (Int × (Int × (List Int)))) =>
                          (F_laws_markIntS (l19, addI .i64 (addI .i64 i2 (1 : Int)) (1 : Int))).bnd (fun ((i20, l21) : (Int × (List Int))) =>
                            (getN (setL (setL l4 (addN 0 k5) (i2, i7, l8)) (addN 0 k9) (i10, addI .i64 i2 (1 : Int), l12)) (addN 0 k13)).bnd (fun ((i22, i23, l24) : (Int × (Int × (List Int)))) =>
                              (fulI 0 (lenN l4) (lenN (setL (setL (setL l4 (addN 0 k5) (i2, i7, l8)) (addN 0 k9) (i10, addI .i64 i2 (1 : Int), l12)) (addN 0 k13) (i22, i23, l21)))).bnd (fun (_ : Unit) =>
                                some (Sum.inl ((i20, addI .i64 i3 (1 : Int)), setL (setL (setL l4 (addN 0 k5) (i2, i7, l8)) (addN 0 k9) (i10, addI .i64 i2 (1 : Int), l12)) (addN 0 k13) (i22, i23, l21))))))))))))))
            (some (Sum.inr (Sum.inl (i2, l4)))))
        ((i1, (0 : Int)), l0)))
    (fun ((i25, l26) : (Int × (List (Int × (Int × (List Int)))))) =>
      (samI (lenN l26) (lenN l0)).bnd (fun (_ : Unit) =>
        some (i25, l26))))

def G_laws_markAutomaton (NN : Nat) : ((Int × (Int × ((List Int) × ((List (Int × (Int × (List Int)))) × (List Int))))) × Int) → (Option (Int × ((List Int) × ((List (Int × (Int × (List Int)))) × (List Int))))) :=
  (fun (((i0, i1, l2, l3, l4), i5) : ((Int × (Int × ((List Int) × ((List (Int × (Int × (List Int)))) × (List Int))))) × Int)) =>
  (fulI 0 (lenN l2) (lenN l2)).bnd (fun (_ : Unit) =>
    (F_laws_markIntS (l2, i5)).bnd (fun ((i6, l7) : (Int × (List Int))) =>
      (fulI 0 (lenN l3) (lenN l3)).bnd (fun (_ : Unit) =>
        (F_laws_markMatrixS (l3, i6)).bnd (fun ((i8, l9) : (Int × (List (Int × (Int × (List Int)))))) =>
          (fulI 0 (lenN l4) (lenN l4)).bnd (fun (_ : Unit) =>
            (F_laws_markIntS (l4, i8)).bnd (fun ((i10, l11) : (Int × (List Int))) =>
              (samI (lenN l7) (lenN l2)).bnd (fun (_ : Unit) =>
                (samI (lenN l9) (lenN l3)).bnd (fun (_ : Unit) =>
                  (samI (lenN l11) (lenN l4)).bnd (fun (_ : Unit) =>
                    some (i10, l7, l9, l11)))))))))))

def G_laws_markSiteS (NN : Nat) : ((List (Int × (Int × (Int × (List Int))))) × Int) → (Option (Int × (List (Int × (Int × (Int × (List Int))))))) :=
  (fun ((l0, i1) : ((List (Int × (Int × (Int × (List Int))))) × Int)) =>
  joinK ((fulI 0 (lenN l0) (lenN l0)).bnd (fun (_ : Unit) =>
      loopT NN (fun (((i2, i3), l4) : ((Int × Int) × (List (Int × (Int × (Int × (List Int))))))) =>
          cnd (ltI i3 (natI (lenN l4)))
            ((chkI i3 (lenN l4)).bnd (fun (k5 : Nat) =>
              (getN l4 (addN 0 k5)).bnd (fun ((i6, i7, i8, l9) : (Int × (Int × (Int × (List Int))))) =>
                (chkI i3 (lenN l4)).bnd (fun (k10 : Nat) =>
                  (getN (setL l4 (addN 0 k5) (i2, i7, i8, l9)) (addN 0 k10)).bnd (fun ((i11, i12, i13, l14) : (Int × (Int × (Int × (List Int))))) =>
                    (chkI i3 (lenN l4)).bnd (fun (k15 : Nat) =>
                      (getN (setL (setL l4 (addN 0 k5) (i2, i7, i8, l9)) (addN 0 k10) (i11, addI .i64 i2 (1 : Int), i13, l14)) (addN 0 k15)).bnd (fun ((i16, i17, i18, l19) : (Int × (Int × (Int × (List Int))))) =>
                        (chkI i3 (lenN l4)).bnd (fun (k20 : Nat) =>
                          (getN (setL (setL (setL l4 (addN 0 k5) (i2, i7, i8, l9)) (addN 0 k10) (i11, addI .i64 i2 (1 : Int), i13, l14)) (addN 0 k15) (i16, i17, addI .i64 (addI .i64 i2 (1 : Int)) (1 : Int), l19)) (addN 0 k20)).bnd (fun ((i21, i22, i23, l24) : (Int × (Int × (Int × (List Int))))) =>
                            (getN (setL (setL (setL l4 (addN 0 k5) (i2, i7, i8, l9)) (addN 0 k10) (i11, addI .i64 i2 (1 : Int), i13, l14)) (addN 0 k15) (i16, i17, addI .i64 (addI .i64 i2 (1 : Int)) (1 : Int), l19)) (addN 0 k20)).bnd (fun ((i25, i26, i27, l28) : (Int × (Int × (Int × (List Int))))) =>
                              (F_laws_markIntS (l28, addI .i64 (addI .i64 (addI .i64 i2 (1 : Int)) (1 : Int)) (1 : Int))).bnd (fun ((i29, l30) : (Int × (List Int))) =>
                                (getN (setL (setL (setL l4 (addN 0 k5) (i2, i7, i8, l9)) (addN 0 k10) (i11, addI .i64 i2 (1 : Int), i13, l14)) (addN 0 k15) (i16, i17, addI .i64 (addI .i64 i2 (1 : Int)) (1 : Int), l19)) (addN 0 k20)).bnd (fun ((i31, i32, i33, l34) : (Int × (Int × (Int × (List Int))))) =>
                                  (fulI 0 (lenN l4) (lenN (setL (setL (setL (setL l4 (addN 0 k5) (i2, i7, i8, l9)) (addN 0 k10) (i11, addI .i64 i2 (1 : Int), i13, l14)) (addN 0 k15) (i16, i17, addI .i64 (addI .i64 i2 (1 : Int)) (1 : Int), l19)) (addN 0 k20) (i31, i32, i33, l30)))).bnd (fun (_ : Unit) =>
                                    some (Sum.inl ((i29, addI .i64 i3 (1 : Int)), setL (setL (setL (setL l4 (addN 0 k5) (i2, i7, i8, l9)) (addN 0 k10) (i11, addI .i64 i2 (1 : Int), i13, l14)) (addN 0 k15) (i16, i17, addI .i64 (addI .i64 i2 (1 : Int)) (1 : Int), l19)) (addN 0 k20) (i31, i32, i33, l30))))))))))))))))
            (some (Sum.inr (Sum.inl (i2, l4)))))
        ((i1, (0 : Int)), l0)))
    (fun ((i35, l36) : (Int × (List (Int × (Int × (Int × (List Int))))))) =>
      (samI (lenN l36) (lenN l0)).bnd (fun (_ : Unit) =>
        some (i35, l36))))

def G_laws_markChain (NN : Nat) : ((Int × (List (Int × (Int × (Int × (List Int)))))) × Int) → (Option (Int × (List (Int × (Int × (Int × (List Int))))))) :=
  (fun (((i0, l1), i2) : ((Int × (List (Int × (Int × (Int × (List Int)))))) × Int)) =>
  (fulI 0 (lenN l1) (lenN l1)).bnd (fun (_ : Unit) =>
    (F_laws_markSiteS (l1, i2)).bnd (fun ((i3, l4) : (Int × (List (Int × (Int × (Int × (List Int))))))) =>
      (samI (lenN l4) (lenN l1)).bnd (fun (_ : Unit) =>
        some (i3, l4)))))

def G_laws_markTensor (NN : Nat) : (((List Int) × ((List Int) × (List Int))) × Int) → (Option (Int × ((List Int) × ((List Int) × (List Int))))) :=
  (fun (((l0, l1, l2), i3) : (((List Int) × ((List Int) × (List Int))) × Int)) =>
  (fulI 0 (lenN l0) (lenN l0)).bnd (fun (_ : Unit) =>
    (F_laws_markIntS (l0, i3)).bnd (fun ((i4, l5) : (Int × (List Int))) =>
      (fulI 0 (lenN l1) (lenN l1)).bnd (fun (_ : Unit) =>
        (F_laws_markIntS (l1, i4)).bnd (fun ((i6, l7) : (Int × (List Int))) =>
          (fulI 0 (lenN l2) (lenN l2)).bnd (fun (_ : Unit) =>
            (F_laws_markIntS (l2, i6)).bnd (fun ((i8, l9) : (Int × (List Int))) =>
              (samI (lenN l5) (lenN l0)).bnd (fun (_ : Unit) =>
                (samI (lenN l7) (lenN l1)).bnd (fun (_ : Unit) =>
                  (samI (lenN l9) (lenN l2)).bnd (fun (_ : Unit) =>
                    some (i8, l5, l7, l9)))))))))))

def G_laws_markCharges (NN : Nat) : ((Int × (List (List Int))) × Int) → (Option (Int × (List (List Int)))) :=
  (fun (((i0, l1), i2) : ((Int × (List (List Int))) × Int)) =>
  (fulI 0 (lenN l1) (lenN l1)).bnd (fun (_ : Unit) =>
    (F_laws_markIntSS (l1, i2)).bnd (fun ((i3, l4) : (Int × (List (List Int)))) =>
      (samI (lenN l4) (lenN l1)).bnd (fun (_ : Unit) =>
        some (i3, l4)))))

def G_laws_markEdgeS (NN : Nat) : ((List (Int × Int)) × Int) → (Option (Int × (List (Int × Int)))) :=
  (fun ((l0, i1) : ((List (Int × Int)) × Int)) =>
  joinK ((fulI 0 (lenN l0) (lenN l0)).bnd (fun (_ : Unit) =>
      loopT NN (fun (((i2, i3), l4) : ((Int × Int) × (List (Int × Int)))) =>
          cnd (ltI i3 (natI (lenN l4)))
            ((chkI i3 (lenN l4)).bnd (fun (k5 : Nat) =>
              (getN l4 (addN 0 k5)).bnd (fun ((i6, i7) : (Int × Int)) =>
                (chkI i3 (lenN l4)).bnd (fun (k8 : Nat) =>
                  (getN (setL l4 (addN 0 k5) (i2, i7)) (addN 0 k8)).bnd (fun ((i9, i10) : (Int × Int)) =>
                    (fulI 0 (lenN l4) (lenN (setL (setL l4 (addN 0 k5) (i2, i7)) (addN 0 k8) (i9, addI .i64 i2 (1 : Int))))).bnd (fun (_ : Unit) =>
                      some (Sum.inl ((addI .i64 (addI .i64 i2 (1 : Int)) (1 : Int), addI .i64 i3 (1 : Int)), setL (setL l4 (addN 0 k5) (i2, i7)) (addN 0 k8) (i9, addI .i64 i2 (1 : Int))))))))))
            (some (Sum.inr (Sum.inl (i2, l4)))))
        ((i1, (0 : Int)), l0)))
    (fun ((i11, l12) : (Int × (List (Int × Int)))) =>
      (samI (lenN l12) (lenN l0)).bnd (fun (_ : Unit) =>
        some (i11, l12))))

def G_laws_markGraph (NN : Nat) : ((Int × (List (Int × Int))) × Int) → (Option (Int × (List (Int × Int)))) :=
  (fun (((i0, l1), i2) : ((Int × (List (Int × Int))) × Int)) =>
  (fulI 0 (lenN l1) (lenN l1)).bnd (fun (_ : Unit) =>
    (F_laws_markEdgeS (l1, i2)).bnd (fun ((i3, l4) : (Int × (List (Int × Int)))) =>
      (samI (lenN l4) (lenN l1)).bnd (fun (_ : Unit) =>
        some (i3, l4)))))

def G_laws_heldIntS (NN : Nat) : ((List Int) × Int) → (Option Int) :=
  (fun ((l0, i1) : ((List Int) × Int)) =>
  joinK (loopT NN (fun ((l2, i3, i4) : ((List Int) × (Int × Int))) =>
        cnd (ltI i4 (natI (lenN l2)))
          ((getI l2 i4).bnd (fun (i5 : Int) =>
            cnd (neI i5 i3)
              (some (Sum.inr (Sum.inr ((-1 : Int)))))
              (some (Sum.inl (l2, addI .i64 i3 (1 : Int), addI .i64 i4 (1 : Int))))))
          (some (Sum.inr (Sum.inl i3))))
      (l0, i1, (0 : Int)))
    (fun (i6 : Int) =>
      some i6))

def G_laws_heldIntSS (NN : Nat) : ((List (List Int)) × Int) → (Option Int) :=
  (fun ((l0, i1) : ((List (List Int)) × Int)) =>
  joinK (loopT NN (fun ((l2, i3, i4) : ((List (List Int)) × (Int × Int))) =>
        cnd (ltI i4 (natI (lenN l2)))
          ((getI l2 i4).bnd (fun (l5 : (List Int)) =>
            (F_laws_heldIntS (l5, i3)).bnd (fun (i6 : Int) =>
              cnd (ltI i6 (0 : Int))
                (some (Sum.inr (Sum.inr ((-1 : Int)))))
                (some (Sum.inl (l2, i6, addI .i64 i4 (1 : Int)))))))
          (some (Sum.inr (Sum.inl i3))))
      (l0, i1, (0 : Int)))
    (fun (i7 : Int) =>
      some i7))

def G_laws_heldMatrix (NN : Nat) : ((Int × (Int × (List Int))) × Int) → (Option Int) :=
  (fun (((i0, i1, l2), i3) : ((Int × (Int × (List Int))) × Int)) =>
  (F_laws_heldIntS (l2, i3)).bnd (fun (i4 : Int) =>
    cnd (ltI i4 (0 : Int))
      (some ((-1 : Int)))
      (some i4)))

def G_laws_heldMatrixS (NN : Nat) : ((List (Int × (Int × (List Int)))) × Int) → (Option Int) :=
  (fun ((l0, i1) : ((List (Int × (Int × (List Int)))) × Int)) =>
  joinK (loopT NN (fun ((l2, i3, i4) : ((List (Int × (Int × (List Int)))) × (Int × Int))) =>
        cnd (ltI i4 (natI (lenN l2)))
          ((getI l2 i4).bnd (fun ((i5, i6, l7) : (Int × (Int × (List Int)))) =>
            cnd (neI i5 i3)
              (some (Sum.inr (Sum.inr ((-1 : Int)))))
              ((getI l2 i4).bnd (fun ((i8, i9, l10) : (Int × (Int × (List Int)))) =>
                cnd (neI i9 (addI .i64 i3 (1 : Int)))
                  (some (Sum.inr (Sum.inr ((-1 : Int)))))
                  ((getI l2 i4).bnd (fun ((i11, i12, l13) : (Int × (Int × (List Int)))) =>
                    (F_laws_heldIntS (l13, addI .i64 (addI .i64 i3 (1 : Int)) (1 : Int))).bnd (fun (i14 : Int) =>
                      cnd (ltI i14 (0 : Int))
                        (some (Sum.inr (Sum.inr ((-1 : Int)))))
                        (some (Sum.inl (l2, i14, addI .i64 i4 (1 : Int)))))))))))
          (some (Sum.inr (Sum.inl i3))))
      (l0, i1, (0 : Int)))
    (fun (i15 : Int) =>
      some i15))

def G_laws_heldAutomaton (NN : Nat) : ((Int × (Int × ((List Int) × ((List (Int × (Int × (List Int)))) × (List Int))))) × Int) → (Option Int) :=
  (fun (((i0, i1, l2, l3, l4), i5) : ((Int × (Int × ((List Int) × ((List (Int × (Int × (List Int)))) × (List Int))))) × Int)) =>
  (F_laws_heldIntS (l2, i5)).bnd (fun (i6 : Int) =>
    cnd (ltI i6 (0 : Int))
      (some ((-1 : Int)))
      ((F_laws_heldMatrixS (l3, i6)).bnd (fun (i7 : Int) =>
        cnd (ltI i7 (0 : Int))
          (some ((-1 : Int)))
          ((F_laws_heldIntS (l4, i7)).bnd (fun (i8 : Int) =>
            cnd (ltI i8 (0 : Int))
              (some ((-1 : Int)))
              (some i8)))))))

def G_laws_heldSiteS (NN : Nat) : ((List (Int × (Int × (Int × (List Int))))) × Int) → (Option Int) :=
  (fun ((l0, i1) : ((List (Int × (Int × (Int × (List Int))))) × Int)) =>
  joinK (loopT NN (fun ((l2, i3, i4) : ((List (Int × (Int × (Int × (List Int))))) × (Int × Int))) =>
        cnd (ltI i4 (natI (lenN l2)))
          ((getI l2 i4).bnd (fun ((i5, i6, i7, l8) : (Int × (Int × (Int × (List Int))))) =>
            cnd (neI i5 i3)
              (some (Sum.inr (Sum.inr ((-1 : Int)))))
              ((getI l2 i4).bnd (fun ((i9, i10, i11, l12) : (Int × (Int × (Int × (List Int))))) =>
                cnd (neI i10 (addI .i64 i3 (1 : Int)))
                  (some (Sum.inr (Sum.inr ((-1 : Int)))))
                  ((getI l2 i4).bnd (fun ((i13, i14, i15, l16) : (Int × (Int × (Int × (List Int))))) =>
                    cnd (neI i15 (addI .i64 (addI .i64 i3 (1 : Int)) (1 : Int)))
                      (some (Sum.inr (Sum.inr ((-1 : Int)))))
                      ((getI l2 i4).bnd (fun ((i17, i18, i19, l20) : (Int × (Int × (Int × (List Int))))) =>
                        (F_laws_heldIntS (l20, addI .i64 (addI .i64 (addI .i64 i3 (1 : Int)) (1 : Int)) (1 : Int))).bnd (fun (i21 : Int) =>
                          cnd (ltI i21 (0 : Int))
                            (some (Sum.inr (Sum.inr ((-1 : Int)))))
                            (some (Sum.inl (l2, i21, addI .i64 i4 (1 : Int)))))))))))))
          (some (Sum.inr (Sum.inl i3))))
      (l0, i1, (0 : Int)))
    (fun (i22 : Int) =>
      some i22))

def G_laws_heldChain (NN : Nat) : ((Int × (List (Int × (Int × (Int × (List Int)))))) × Int) → (Option Int) :=
  (fun (((i0, l1), i2) : ((Int × (List (Int × (Int × (Int × (List Int)))))) × Int)) =>
  (F_laws_heldSiteS (l1, i2)).bnd (fun (i3 : Int) =>
    cnd (ltI i3 (0 : Int))
      (some ((-1 : Int)))
      (some i3)))

def G_laws_heldTensor (NN : Nat) : (((List Int) × ((List Int) × (List Int))) × Int) → (Option Int) :=
  (fun (((l0, l1, l2), i3) : (((List Int) × ((List Int) × (List Int))) × Int)) =>
  (F_laws_heldIntS (l0, i3)).bnd (fun (i4 : Int) =>
    cnd (ltI i4 (0 : Int))
      (some ((-1 : Int)))
      ((F_laws_heldIntS (l1, i4)).bnd (fun (i5 : Int) =>
        cnd (ltI i5 (0 : Int))
          (some ((-1 : Int)))
          ((F_laws_heldIntS (l2, i5)).bnd (fun (i6 : Int) =>
            cnd (ltI i6 (0 : Int))
              (some ((-1 : Int)))
              (some i6)))))))

def G_laws_heldEdgeS (NN : Nat) : ((List (Int × Int)) × Int) → (Option Int) :=
  (fun ((l0, i1) : ((List (Int × Int)) × Int)) =>
  joinK (loopT NN (fun ((l2, i3, i4) : ((List (Int × Int)) × (Int × Int))) =>
        cnd (ltI i4 (natI (lenN l2)))
          ((getI l2 i4).bnd (fun ((i5, i6) : (Int × Int)) =>
            cnd (neI i5 i3)
              (some (Sum.inr (Sum.inr ((-1 : Int)))))
              ((getI l2 i4).bnd (fun ((i7, i8) : (Int × Int)) =>
                cnd (neI i8 (addI .i64 i3 (1 : Int)))
                  (some (Sum.inr (Sum.inr ((-1 : Int)))))
                  (some (Sum.inl (l2, addI .i64 (addI .i64 i3 (1 : Int)) (1 : Int), addI .i64 i4 (1 : Int))))))))
          (some (Sum.inr (Sum.inl i3))))
      (l0, i1, (0 : Int)))
    (fun (i9 : Int) =>
      some i9))

def G_laws_heldGraph (NN : Nat) : ((Int × (List (Int × Int))) × Int) → (Option Int) :=
  (fun (((i0, l1), i2) : ((Int × (List (Int × Int))) × Int)) =>
  (F_laws_heldEdgeS (l1, i2)).bnd (fun (i3 : Int) =>
    cnd (ltI i3 (0 : Int))
      (some ((-1 : Int)))
      (some i3)))


theorem f_laws_szIntS (x : (List Int) × Int) (y : Int) (h : F_laws_szIntS x = some y) : G_laws_szIntS FUEL x = some y := by
  obtain ⟨l, k⟩ := x
  simp only [F_laws_szIntS] at h
  split at h
  · rename_i hc
    obtain ⟨⟨k0, k1⟩, hw⟩ := hc
    have hw := of_decide_eq_true hw
    rw [← h]
    have hn := nl l
    simp only [G_laws_szIntS]
    rw [subI_eq (by omega) (by omega)]
    show _ = some (szR l.length k)
    by_cases hs : (l.length : Int) ≤ k
    · rw [szR_t hs, cnd_f (ltI_f (by omega))]; rfl
    · rw [szR_f hs, cnd_t (ltI_t (by omega))]
  · cases h

theorem f_laws_toIntS (x y : List Int) (h : F_laws_toIntS x = some y) : G_laws_toIntS FUEL x = some y := by
  simp only [F_laws_toIntS] at h
  split at h
  · rename_i hl
    injection h with h
    subst h
    have hl : x.length ≤ 1048576 := hl
    simp only [G_laws_toIntS, mkI_nat (n := lenN x) (by_ := 8) (by simp only [lenN, maxBytes]; omega), bnd_s, lenN_repL, fulI_id]
    rw [fill_loop x 0 (r := Sum.inl x) ?_ ?_ (by omega)]
    · simp only [joinK_l, takI_id, bnd_s]
    · intro i e ys he hy hi
      simp only
      rw [cnd_t (ltI_in he), getI_nat, he, bnd_s]
      simp only [chkI_len hi, bnd_s, addN_0, getN, hi, lenN_setL, fulI_id, next_i he (by omega)]
      rfl
    · simp only
      rw [cnd_f (ltI_end x)]
  · cases h

theorem f_laws_eqIntS (x : (List Int) × (List Int)) (y : Bool) (h : F_laws_eqIntS x = some y) : G_laws_eqIntS FUEL x = some y := by
  obtain ⟨a, b⟩ := x
  simp only [F_laws_eqIntS] at h
  split at h
  · rename_i hl
    rw [← h]
    have hl : a.length ≤ 1048576 := hl
    exact eq_loopI a b (by omega)
  · cases h

theorem f_laws_szIntSS (x : (List (List Int)) × Int) (y : Int) (h : F_laws_szIntSS x = some y) : G_laws_szIntSS FUEL x = some y := by
  obtain ⟨l, k⟩ := x
  simp only [F_laws_szIntSS] at h
  split at h
  · rename_i hc
    obtain ⟨hk, hw⟩ := hc
    unfold wf_IntSS at hw
    rw [Bool.and_eq_true, decide_eq_true_eq, List.all_eq_true] at hw
    rw [← h]
    exact sz_loop F_laws_szIntS sz_IntS l hw.1 (fun e he k hk => if_pos ⟨hk, hw.2 e he⟩) k hk
  · cases h

theorem sz_IntSS_mem {l : List (List Int)} (h : sz_IntSS l ≤ 1048576) : l.length ≤ 1048576 ∧ ∀ e ∈ l, sz_IntS e ≤ 1048576 := by
  unfold sz_IntSS at h
  refine ⟨by omega, fun e he => ?_⟩
  have := le_sum_mem (List.mem_map_of_mem (f := sz_IntS) he)
  omega

theorem f_laws_toIntSS (x y : List (List Int)) (h : F_laws_toIntSS x = some y) : G_laws_toIntSS FUEL x = some y := by
  simp only [F_laws_toIntSS] at h
  split at h
  · rename_i hl
    injection h with h
    subst h
    obtain ⟨hl, hm⟩ := sz_IntSS_mem hl
    simp only [G_laws_toIntSS, mkI_nat (n := lenN x) (by_ := 24) (by simp only [lenN, maxBytes]; omega), bnd_s, lenN_repL, fulI_id]
    rw [fill_loop x [] (r := Sum.inl x) ?_ ?_ (by omega)]
    · simp only [joinK_l, takI_id, bnd_s]
    · rintro i e0 ys he hy hi
      simp only
      rw [cnd_t (ltI_in he), getI_nat, he, bnd_s]
      simp only [F_laws_toIntS, if_pos (hm _ (List.mem_of_getElem? he)), chkI_len hi, bnd_s, addN_0, getN, hi, takI_id, lenN_setL, fulI_id, next_i he (by omega)]
      rfl
    · simp only
      rw [cnd_f (ltI_end x)]
  · cases h

theorem f_laws_eqIntSS (x : (List (List Int)) × (List (List Int))) (y : Bool) (h : F_laws_eqIntSS x = some y) : G_laws_eqIntSS FUEL x = some y := by
  obtain ⟨a, b⟩ := x
  simp only [F_laws_eqIntSS] at h
  split at h
  · rename_i hl
    rw [← h]
    obtain ⟨hl, hm⟩ := sz_IntSS_mem hl
    exact eq_loop F_laws_eqIntS a b (fun e he b => show (if sz_IntS e ≤ 1048576 then some (decide (e = b)) else none) = _ from if_pos (hm e he)) (by omega)
  · cases h

theorem f_laws_szMatrix (x : (Int × Int × (List Int)) × Int) (y : Int) (h : F_laws_szMatrix x = some y) : G_laws_szMatrix FUEL x = some y := by
  obtain ⟨⟨a0, a1, a2⟩, k⟩ := x
  simp only [F_laws_szMatrix] at h
  split at h
  · rename_i hc
    obtain ⟨⟨k0, k1⟩, hw⟩ := hc
    simp only [wf_Matrix] at hw
    rw [← h]
    simp only [G_laws_szMatrix]
    rw [szK (o := F_laws_szIntS (a2, k)) (s := sz_IntS a2) (if_pos ⟨by constructor <;> omega, hw⟩)]
    by_cases c0 : ((sz_IntS a2 : Nat) : Int) ≤ k
    · rw [if_pos c0]
      show _ = some (szR (sz_IntS a2) k)
      rw [szR_t (by omega)]
    · rw [if_neg c0]
      show _ = some (szR (sz_IntS a2) k)
      rw [szR_f (by omega)]
  · cases h

theorem f_laws_toMatrix (x y : Int × Int × (List Int)) (h : F_laws_toMatrix x = some y) : G_laws_toMatrix FUEL x = some y := by
  obtain ⟨a0, a1, a2⟩ := x
  simp only [F_laws_toMatrix] at h
  split at h
  · rename_i hl
    rw [← h]
    simp only [sz_Matrix] at hl
    simp only [G_laws_toMatrix, F_laws_toIntS, if_pos (show sz_IntS a2 ≤ 1048576 by omega), bnd_s, takI_id]
  · cases h

theorem f_laws_eqMatrix (x : (Int × Int × (List Int)) × (Int × Int × (List Int))) (y : Bool) (h : F_laws_eqMatrix x = some y) : G_laws_eqMatrix FUEL x = some y := by
  obtain ⟨⟨a0, a1, a2⟩, b0, b1, b2⟩ := x
  simp only [F_laws_eqMatrix] at h
  split at h
  · rename_i hl
    rw [← h]
    simp only [sz_Matrix] at hl
    simp only [G_laws_eqMatrix, F_laws_eqIntS, if_pos (show sz_IntS a2 ≤ 1048576 by omega), bnd_s]
    by_cases e0 : a0 = b0 <;> by_cases e1 : a1 = b1 <;> by_cases e2 : a2 = b2 <;> simp [neI_d, notB, cnd, *]
  · cases h

theorem f_laws_szMatrixS (x : (List (Int × Int × (List Int))) × Int) (y : Int) (h : F_laws_szMatrixS x = some y) : G_laws_szMatrixS FUEL x = some y := by
  obtain ⟨l, k⟩ := x
  simp only [F_laws_szMatrixS] at h
  split at h
  · rename_i hc
    obtain ⟨hk, hw⟩ := hc
    unfold wf_MatrixS at hw
    rw [Bool.and_eq_true, decide_eq_true_eq, List.all_eq_true] at hw
    rw [← h]
    exact sz_loop F_laws_szMatrix sz_Matrix l hw.1 (fun e he k hk => if_pos ⟨hk, hw.2 e he⟩) k hk
  · cases h

theorem sz_MatrixS_mem {l : List (Int × Int × (List Int))} (h : sz_MatrixS l ≤ 1048576) : l.length ≤ 1048576 ∧ ∀ e ∈ l, sz_Matrix e ≤ 1048576 := by
  unfold sz_MatrixS at h
  refine ⟨by omega, fun e he => ?_⟩
  have := le_sum_mem (List.mem_map_of_mem (f := sz_Matrix) he)
  omega

theorem f_laws_toMatrixS (x y : List (Int × Int × (List Int))) (h : F_laws_toMatrixS x = some y) : G_laws_toMatrixS FUEL x = some y := by
  simp only [F_laws_toMatrixS] at h
  split at h
  · rename_i hl
    injection h with h
    subst h
    obtain ⟨hl, hm⟩ := sz_MatrixS_mem hl
    simp only [G_laws_toMatrixS, mkI_nat (n := lenN x) (by_ := 40) (by simp only [lenN, maxBytes]; omega), bnd_s, lenN_repL, fulI_id]
    rw [fill_loop x (0, 0, []) (r := Sum.inl x) ?_ ?_ (by omega)]
    · simp only [joinK_l, takI_id, bnd_s]
    · rintro i ⟨a0, a1, a2⟩ ys he hy hi
      simp only
      rw [cnd_t (ltI_in he), getI_nat, he, bnd_s]
      simp only [F_laws_toMatrix, if_pos (hm _ (List.mem_of_getElem? he)), chkI_len hi, bnd_s, addN_0, getN, hi, takI_id, lenN_setL, fulI_id, next_i he (by omega)]
      rfl
    · simp only
      rw [cnd_f (ltI_end x)]
  · cases h

theorem f_laws_eqMatrixS (x : (List (Int × Int × (List Int))) × (List (Int × Int × (List Int)))) (y : Bool) (h : F_laws_eqMatrixS x = some y) : G_laws_eqMatrixS FUEL x = some y := by
  obtain ⟨a, b⟩ := x
  simp only [F_laws_eqMatrixS] at h
  split at h
  · rename_i hl
    rw [← h]
    obtain ⟨hl, hm⟩ := sz_MatrixS_mem hl
    exact eq_loop F_laws_eqMatrix a b (fun e he b => show (if sz_Matrix e ≤ 1048576 then some (decide (e = b)) else none) = _ from if_pos (hm e he)) (by omega)
  · cases h

theorem f_laws_szAutomaton (x : (Int × Int × (List Int) × (List (Int × Int × (List Int))) × (List Int)) × Int) (y : Int) (h : F_laws_szAutomaton x = some y) : G_laws_szAutomaton FUEL x = some y := by
  obtain ⟨⟨a0, a1, a2, a3, a4⟩, k⟩ := x
  simp only [F_laws_szAutomaton] at h
  split at h
  · rename_i hc
    obtain ⟨⟨k0, k1⟩, hw⟩ := hc
    simp only [wf_Automaton, Bool.and_eq_true] at hw
    rw [← h]
    simp only [G_laws_szAutomaton]
    rw [szK (o := F_laws_szIntS (a2, k)) (s := sz_IntS a2) (if_pos ⟨by constructor <;> omega, hw.1.1⟩)]
    by_cases c0 : ((sz_IntS a2 : Nat) : Int) ≤ k
    · rw [if_pos c0]
      rw [szK (o := F_laws_szMatrixS (a3, k - sz_IntS a2)) (s := sz_MatrixS a3) (if_pos ⟨by constructor <;> omega, hw.1.2⟩)]
      by_cases c1 : ((sz_MatrixS a3 : Nat) : Int) ≤ k - sz_IntS a2
      · rw [if_pos c1]
        rw [szK (o := F_laws_szIntS (a4, k - sz_IntS a2 - sz_MatrixS a3)) (s := sz_IntS a4) (if_pos ⟨by constructor <;> omega, hw.2⟩)]
        by_cases c2 : ((sz_IntS a4 : Nat) : Int) ≤ k - sz_IntS a2 - sz_MatrixS a3
        · rw [if_pos c2]
          show _ = some (szR (sz_IntS a2 + sz_MatrixS a3 + sz_IntS a4) k)
          rw [szR_t (by omega)]
          exact congrArg some (by omega)
        · rw [if_neg c2]
          show _ = some (szR (sz_IntS a2 + sz_MatrixS a3 + sz_IntS a4) k)
          rw [szR_f (by omega)]
      · rw [if_neg c1]
        show _ = some (szR (sz_IntS a2 + sz_MatrixS a3 + sz_IntS a4) k)
        rw [szR_f (by omega)]
    · rw [if_neg c0]
      show _ = some (szR (sz_IntS a2 + sz_MatrixS a3 + sz_IntS a4) k)
      rw [szR_f (by omega)]
  · cases h

theorem f_laws_toAutomaton (x y : Int × Int × (List Int) × (List (Int × Int × (List Int))) × (List Int)) (h : F_laws_toAutomaton x = some y) : G_laws_toAutomaton FUEL x = some y := by
  obtain ⟨a0, a1, a2, a3, a4⟩ := x
  simp only [F_laws_toAutomaton] at h
  split at h
  · rename_i hl
    rw [← h]
    simp only [sz_Automaton] at hl
    simp only [G_laws_toAutomaton, F_laws_toIntS, F_laws_toMatrixS, if_pos (show sz_IntS a2 ≤ 1048576 by omega), if_pos (show sz_MatrixS a3 ≤ 1048576 by omega), if_pos (show sz_IntS a4 ≤ 1048576 by omega), bnd_s, takI_id]
  · cases h

theorem f_laws_eqAutomaton (x : (Int × Int × (List Int) × (List (Int × Int × (List Int))) × (List Int)) × (Int × Int × (List Int) × (List (Int × Int × (List Int))) × (List Int))) (y : Bool) (h : F_laws_eqAutomaton x = some y) : G_laws_eqAutomaton FUEL x = some y := by
  obtain ⟨⟨a0, a1, a2, a3, a4⟩, b0, b1, b2, b3, b4⟩ := x
  simp only [F_laws_eqAutomaton] at h
  split at h
  · rename_i hl
    rw [← h]
    simp only [sz_Automaton] at hl
    simp only [G_laws_eqAutomaton, F_laws_eqIntS, F_laws_eqMatrixS, if_pos (show sz_IntS a2 ≤ 1048576 by omega), if_pos (show sz_MatrixS a3 ≤ 1048576 by omega), if_pos (show sz_IntS a4 ≤ 1048576 by omega), bnd_s]
    by_cases e0 : a0 = b0 <;> by_cases e1 : a1 = b1 <;> by_cases e2 : a2 = b2 <;> by_cases e3 : a3 = b3 <;> by_cases e4 : a4 = b4 <;> simp [neI_d, notB, cnd, *]
  · cases h

theorem f_laws_szSite (x : (Int × Int × Int × (List Int)) × Int) (y : Int) (h : F_laws_szSite x = some y) : G_laws_szSite FUEL x = some y := by
  obtain ⟨⟨a0, a1, a2, a3⟩, k⟩ := x
  simp only [F_laws_szSite] at h
  split at h
  · rename_i hc
    obtain ⟨⟨k0, k1⟩, hw⟩ := hc
    simp only [wf_Site] at hw
    rw [← h]
    simp only [G_laws_szSite]
    rw [szK (o := F_laws_szIntS (a3, k)) (s := sz_IntS a3) (if_pos ⟨by constructor <;> omega, hw⟩)]
    by_cases c0 : ((sz_IntS a3 : Nat) : Int) ≤ k
    · rw [if_pos c0]
      show _ = some (szR (sz_IntS a3) k)
      rw [szR_t (by omega)]
    · rw [if_neg c0]
      show _ = some (szR (sz_IntS a3) k)
      rw [szR_f (by omega)]
  · cases h

theorem f_laws_toSite (x y : Int × Int × Int × (List Int)) (h : F_laws_toSite x = some y) : G_laws_toSite FUEL x = some y := by
  obtain ⟨a0, a1, a2, a3⟩ := x
  simp only [F_laws_toSite] at h
  split at h
  · rename_i hl
    rw [← h]
    simp only [sz_Site] at hl
    simp only [G_laws_toSite, F_laws_toIntS, if_pos (show sz_IntS a3 ≤ 1048576 by omega), bnd_s, takI_id]
  · cases h

theorem f_laws_eqSite (x : (Int × Int × Int × (List Int)) × (Int × Int × Int × (List Int))) (y : Bool) (h : F_laws_eqSite x = some y) : G_laws_eqSite FUEL x = some y := by
  obtain ⟨⟨a0, a1, a2, a3⟩, b0, b1, b2, b3⟩ := x
  simp only [F_laws_eqSite] at h
  split at h
  · rename_i hl
    rw [← h]
    simp only [sz_Site] at hl
    simp only [G_laws_eqSite, F_laws_eqIntS, if_pos (show sz_IntS a3 ≤ 1048576 by omega), bnd_s]
    by_cases e0 : a0 = b0 <;> by_cases e1 : a1 = b1 <;> by_cases e2 : a2 = b2 <;> by_cases e3 : a3 = b3 <;> simp [neI_d, notB, cnd, *]
  · cases h

theorem f_laws_szSiteS (x : (List (Int × Int × Int × (List Int))) × Int) (y : Int) (h : F_laws_szSiteS x = some y) : G_laws_szSiteS FUEL x = some y := by
  obtain ⟨l, k⟩ := x
  simp only [F_laws_szSiteS] at h
  split at h
  · rename_i hc
    obtain ⟨hk, hw⟩ := hc
    unfold wf_SiteS at hw
    rw [Bool.and_eq_true, decide_eq_true_eq, List.all_eq_true] at hw
    rw [← h]
    exact sz_loop F_laws_szSite sz_Site l hw.1 (fun e he k hk => if_pos ⟨hk, hw.2 e he⟩) k hk
  · cases h

theorem sz_SiteS_mem {l : List (Int × Int × Int × (List Int))} (h : sz_SiteS l ≤ 1048576) : l.length ≤ 1048576 ∧ ∀ e ∈ l, sz_Site e ≤ 1048576 := by
  unfold sz_SiteS at h
  refine ⟨by omega, fun e he => ?_⟩
  have := le_sum_mem (List.mem_map_of_mem (f := sz_Site) he)
  omega

theorem f_laws_toSiteS (x y : List (Int × Int × Int × (List Int))) (h : F_laws_toSiteS x = some y) : G_laws_toSiteS FUEL x = some y := by
  simp only [F_laws_toSiteS] at h
  split at h
  · rename_i hl
    injection h with h
    subst h
    obtain ⟨hl, hm⟩ := sz_SiteS_mem hl
    simp only [G_laws_toSiteS, mkI_nat (n := lenN x) (by_ := 48) (by simp only [lenN, maxBytes]; omega), bnd_s, lenN_repL, fulI_id]
    rw [fill_loop x (0, 0, 0, []) (r := Sum.inl x) ?_ ?_ (by omega)]
    · simp only [joinK_l, takI_id, bnd_s]
    · rintro i ⟨a0, a1, a2, a3⟩ ys he hy hi
      simp only
      rw [cnd_t (ltI_in he), getI_nat, he, bnd_s]
      simp only [F_laws_toSite, if_pos (hm _ (List.mem_of_getElem? he)), chkI_len hi, bnd_s, addN_0, getN, hi, takI_id, lenN_setL, fulI_id, next_i he (by omega)]
      rfl
    · simp only
      rw [cnd_f (ltI_end x)]
  · cases h

theorem f_laws_eqSiteS (x : (List (Int × Int × Int × (List Int))) × (List (Int × Int × Int × (List Int)))) (y : Bool) (h : F_laws_eqSiteS x = some y) : G_laws_eqSiteS FUEL x = some y := by
  obtain ⟨a, b⟩ := x
  simp only [F_laws_eqSiteS] at h
  split at h
  · rename_i hl
    rw [← h]
    obtain ⟨hl, hm⟩ := sz_SiteS_mem hl
    exact eq_loop F_laws_eqSite a b (fun e he b => show (if sz_Site e ≤ 1048576 then some (decide (e = b)) else none) = _ from if_pos (hm e he)) (by omega)
  · cases h

theorem f_laws_szChain (x : (Int × (List (Int × Int × Int × (List Int)))) × Int) (y : Int) (h : F_laws_szChain x = some y) : G_laws_szChain FUEL x = some y := by
  obtain ⟨⟨a0, a1⟩, k⟩ := x
  simp only [F_laws_szChain] at h
  split at h
  · rename_i hc
    obtain ⟨⟨k0, k1⟩, hw⟩ := hc
    simp only [wf_Chain] at hw
    rw [← h]
    simp only [G_laws_szChain]
    rw [szK (o := F_laws_szSiteS (a1, k)) (s := sz_SiteS a1) (if_pos ⟨by constructor <;> omega, hw⟩)]
    by_cases c0 : ((sz_SiteS a1 : Nat) : Int) ≤ k
    · rw [if_pos c0]
      show _ = some (szR (sz_SiteS a1) k)
      rw [szR_t (by omega)]
    · rw [if_neg c0]
      show _ = some (szR (sz_SiteS a1) k)
      rw [szR_f (by omega)]
  · cases h

theorem f_laws_toChain (x y : Int × (List (Int × Int × Int × (List Int)))) (h : F_laws_toChain x = some y) : G_laws_toChain FUEL x = some y := by
  obtain ⟨a0, a1⟩ := x
  simp only [F_laws_toChain] at h
  split at h
  · rename_i hl
    rw [← h]
    simp only [sz_Chain] at hl
    simp only [G_laws_toChain, F_laws_toSiteS, if_pos (show sz_SiteS a1 ≤ 1048576 by omega), bnd_s, takI_id]
  · cases h

theorem f_laws_eqChain (x : (Int × (List (Int × Int × Int × (List Int)))) × (Int × (List (Int × Int × Int × (List Int))))) (y : Bool) (h : F_laws_eqChain x = some y) : G_laws_eqChain FUEL x = some y := by
  obtain ⟨⟨a0, a1⟩, b0, b1⟩ := x
  simp only [F_laws_eqChain] at h
  split at h
  · rename_i hl
    rw [← h]
    simp only [sz_Chain] at hl
    simp only [G_laws_eqChain, F_laws_eqSiteS, if_pos (show sz_SiteS a1 ≤ 1048576 by omega), bnd_s]
    by_cases e0 : a0 = b0 <;> by_cases e1 : a1 = b1 <;> simp [neI_d, notB, cnd, *]
  · cases h

theorem f_laws_szTensor (x : ((List Int) × (List Int) × (List Int)) × Int) (y : Int) (h : F_laws_szTensor x = some y) : G_laws_szTensor FUEL x = some y := by
  obtain ⟨⟨a0, a1, a2⟩, k⟩ := x
  simp only [F_laws_szTensor] at h
  split at h
  · rename_i hc
    obtain ⟨⟨k0, k1⟩, hw⟩ := hc
    simp only [wf_Tensor, Bool.and_eq_true] at hw
    rw [← h]
    simp only [G_laws_szTensor]
    rw [szK (o := F_laws_szIntS (a0, k)) (s := sz_IntS a0) (if_pos ⟨by constructor <;> omega, hw.1.1⟩)]
    by_cases c0 : ((sz_IntS a0 : Nat) : Int) ≤ k
    · rw [if_pos c0]
      rw [szK (o := F_laws_szIntS (a1, k - sz_IntS a0)) (s := sz_IntS a1) (if_pos ⟨by constructor <;> omega, hw.1.2⟩)]
      by_cases c1 : ((sz_IntS a1 : Nat) : Int) ≤ k - sz_IntS a0
      · rw [if_pos c1]
        rw [szK (o := F_laws_szIntS (a2, k - sz_IntS a0 - sz_IntS a1)) (s := sz_IntS a2) (if_pos ⟨by constructor <;> omega, hw.2⟩)]
        by_cases c2 : ((sz_IntS a2 : Nat) : Int) ≤ k - sz_IntS a0 - sz_IntS a1
        · rw [if_pos c2]
          show _ = some (szR (sz_IntS a0 + sz_IntS a1 + sz_IntS a2) k)
          rw [szR_t (by omega)]
          exact congrArg some (by omega)
        · rw [if_neg c2]
          show _ = some (szR (sz_IntS a0 + sz_IntS a1 + sz_IntS a2) k)
          rw [szR_f (by omega)]
      · rw [if_neg c1]
        show _ = some (szR (sz_IntS a0 + sz_IntS a1 + sz_IntS a2) k)
        rw [szR_f (by omega)]
    · rw [if_neg c0]
      show _ = some (szR (sz_IntS a0 + sz_IntS a1 + sz_IntS a2) k)
      rw [szR_f (by omega)]
  · cases h

theorem f_laws_toTensor (x y : (List Int) × (List Int) × (List Int)) (h : F_laws_toTensor x = some y) : G_laws_toTensor FUEL x = some y := by
  obtain ⟨a0, a1, a2⟩ := x
  simp only [F_laws_toTensor] at h
  split at h
  · rename_i hl
    rw [← h]
    simp only [sz_Tensor] at hl
    simp only [G_laws_toTensor, F_laws_toIntS, if_pos (show sz_IntS a0 ≤ 1048576 by omega), if_pos (show sz_IntS a1 ≤ 1048576 by omega), if_pos (show sz_IntS a2 ≤ 1048576 by omega), bnd_s, takI_id]
  · cases h

theorem f_laws_eqTensor (x : ((List Int) × (List Int) × (List Int)) × ((List Int) × (List Int) × (List Int))) (y : Bool) (h : F_laws_eqTensor x = some y) : G_laws_eqTensor FUEL x = some y := by
  obtain ⟨⟨a0, a1, a2⟩, b0, b1, b2⟩ := x
  simp only [F_laws_eqTensor] at h
  split at h
  · rename_i hl
    rw [← h]
    simp only [sz_Tensor] at hl
    simp only [G_laws_eqTensor, F_laws_eqIntS, if_pos (show sz_IntS a0 ≤ 1048576 by omega), if_pos (show sz_IntS a1 ≤ 1048576 by omega), if_pos (show sz_IntS a2 ≤ 1048576 by omega), bnd_s]
    by_cases e0 : a0 = b0 <;> by_cases e1 : a1 = b1 <;> by_cases e2 : a2 = b2 <;> simp [neI_d, notB, cnd, *]
  · cases h

theorem f_laws_szCharges (x : (Int × (List (List Int))) × Int) (y : Int) (h : F_laws_szCharges x = some y) : G_laws_szCharges FUEL x = some y := by
  obtain ⟨⟨a0, a1⟩, k⟩ := x
  simp only [F_laws_szCharges] at h
  split at h
  · rename_i hc
    obtain ⟨⟨k0, k1⟩, hw⟩ := hc
    simp only [wf_Charges] at hw
    rw [← h]
    simp only [G_laws_szCharges]
    rw [szK (o := F_laws_szIntSS (a1, k)) (s := sz_IntSS a1) (if_pos ⟨by constructor <;> omega, hw⟩)]
    by_cases c0 : ((sz_IntSS a1 : Nat) : Int) ≤ k
    · rw [if_pos c0]
      show _ = some (szR (sz_IntSS a1) k)
      rw [szR_t (by omega)]
    · rw [if_neg c0]
      show _ = some (szR (sz_IntSS a1) k)
      rw [szR_f (by omega)]
  · cases h

theorem f_laws_toCharges (x y : Int × (List (List Int))) (h : F_laws_toCharges x = some y) : G_laws_toCharges FUEL x = some y := by
  obtain ⟨a0, a1⟩ := x
  simp only [F_laws_toCharges] at h
  split at h
  · rename_i hl
    rw [← h]
    simp only [sz_Charges] at hl
    simp only [G_laws_toCharges, F_laws_toIntSS, if_pos (show sz_IntSS a1 ≤ 1048576 by omega), bnd_s, takI_id]
  · cases h

theorem f_laws_eqCharges (x : (Int × (List (List Int))) × (Int × (List (List Int)))) (y : Bool) (h : F_laws_eqCharges x = some y) : G_laws_eqCharges FUEL x = some y := by
  obtain ⟨⟨a0, a1⟩, b0, b1⟩ := x
  simp only [F_laws_eqCharges] at h
  split at h
  · rename_i hl
    rw [← h]
    simp only [sz_Charges] at hl
    simp only [G_laws_eqCharges, F_laws_eqIntSS, if_pos (show sz_IntSS a1 ≤ 1048576 by omega), bnd_s]
    by_cases e0 : a0 = b0 <;> by_cases e1 : a1 = b1 <;> simp [neI_d, notB, cnd, *]
  · cases h

theorem f_laws_toEdge (x y : Int × Int) (h : F_laws_toEdge x = some y) : G_laws_toEdge FUEL x = some y := by
  obtain ⟨a0, a1⟩ := x
  exact h

theorem f_laws_eqEdge (x : (Int × Int) × (Int × Int)) (y : Bool) (h : F_laws_eqEdge x = some y) : G_laws_eqEdge FUEL x = some y := by
  obtain ⟨⟨a0, a1⟩, b0, b1⟩ := x
  rw [← h]
  simp only [F_laws_eqEdge, G_laws_eqEdge, sz_Edge, Nat.zero_le, if_true]
  by_cases e0 : a0 = b0 <;> by_cases e1 : a1 = b1 <;> simp [neI_d, notB, cnd, *]

theorem f_laws_szEdgeS (x : (List (Int × Int)) × Int) (y : Int) (h : F_laws_szEdgeS x = some y) : G_laws_szEdgeS FUEL x = some y := by
  obtain ⟨l, k⟩ := x
  simp only [F_laws_szEdgeS] at h
  split at h
  · rename_i hc
    obtain ⟨⟨k0, k1⟩, hw⟩ := hc
    have hw := of_decide_eq_true hw
    rw [← h]
    have hn := nl l
    simp only [G_laws_szEdgeS]
    rw [subI_eq (by omega) (by omega)]
    show _ = some (szR l.length k)
    by_cases hs : (l.length : Int) ≤ k
    · rw [szR_t hs, cnd_f (ltI_f (by omega))]; rfl
    · rw [szR_f hs, cnd_t (ltI_t (by omega))]
  · cases h

theorem sz_EdgeS_mem {l : List (Int × Int)} (h : sz_EdgeS l ≤ 1048576) : l.length ≤ 1048576 ∧ ∀ e ∈ l, sz_Edge e ≤ 1048576 := by
  unfold sz_EdgeS at h
  refine ⟨by omega, fun e he => ?_⟩
  show 0 ≤ 1048576
  omega

theorem f_laws_toEdgeS (x y : List (Int × Int)) (h : F_laws_toEdgeS x = some y) : G_laws_toEdgeS FUEL x = some y := by
  simp only [F_laws_toEdgeS] at h
  split at h
  · rename_i hl
    injection h with h
    subst h
    obtain ⟨hl, hm⟩ := sz_EdgeS_mem hl
    simp only [G_laws_toEdgeS, mkI_nat (n := lenN x) (by_ := 16) (by simp only [lenN, maxBytes]; omega), bnd_s, lenN_repL, fulI_id]
    rw [fill_loop x (0, 0) (r := Sum.inl x) ?_ ?_ (by omega)]
    · simp only [joinK_l, takI_id, bnd_s]
    · rintro i ⟨a0, a1⟩ ys he hy hi
      simp only
      rw [cnd_t (ltI_in he), getI_nat, he, bnd_s]
      simp only [F_laws_toEdge, if_pos (hm _ (List.mem_of_getElem? he)), chkI_len hi, bnd_s, addN_0, getN, hi, takI_id, lenN_setL, fulI_id, next_i he (by omega)]
      rfl
    · simp only
      rw [cnd_f (ltI_end x)]
  · cases h

theorem f_laws_eqEdgeS (x : (List (Int × Int)) × (List (Int × Int))) (y : Bool) (h : F_laws_eqEdgeS x = some y) : G_laws_eqEdgeS FUEL x = some y := by
  obtain ⟨a, b⟩ := x
  simp only [F_laws_eqEdgeS] at h
  split at h
  · rename_i hl
    rw [← h]
    obtain ⟨hl, hm⟩ := sz_EdgeS_mem hl
    exact eq_loop F_laws_eqEdge a b (fun e he b => show (if sz_Edge e ≤ 1048576 then some (decide (e = b)) else none) = _ from if_pos (hm e he)) (by omega)
  · cases h

theorem f_laws_szGraph (x : (Int × (List (Int × Int))) × Int) (y : Int) (h : F_laws_szGraph x = some y) : G_laws_szGraph FUEL x = some y := by
  obtain ⟨⟨a0, a1⟩, k⟩ := x
  simp only [F_laws_szGraph] at h
  split at h
  · rename_i hc
    obtain ⟨⟨k0, k1⟩, hw⟩ := hc
    simp only [wf_Graph] at hw
    rw [← h]
    simp only [G_laws_szGraph]
    rw [szK (o := F_laws_szEdgeS (a1, k)) (s := sz_EdgeS a1) (if_pos ⟨by constructor <;> omega, hw⟩)]
    by_cases c0 : ((sz_EdgeS a1 : Nat) : Int) ≤ k
    · rw [if_pos c0]
      show _ = some (szR (sz_EdgeS a1) k)
      rw [szR_t (by omega)]
    · rw [if_neg c0]
      show _ = some (szR (sz_EdgeS a1) k)
      rw [szR_f (by omega)]
  · cases h

theorem f_laws_toGraph (x y : Int × (List (Int × Int))) (h : F_laws_toGraph x = some y) : G_laws_toGraph FUEL x = some y := by
  obtain ⟨a0, a1⟩ := x
  simp only [F_laws_toGraph] at h
  split at h
  · rename_i hl
    rw [← h]
    simp only [sz_Graph] at hl
    simp only [G_laws_toGraph, F_laws_toEdgeS, if_pos (show sz_EdgeS a1 ≤ 1048576 by omega), bnd_s, takI_id]
  · cases h

theorem f_laws_eqGraph (x : (Int × (List (Int × Int))) × (Int × (List (Int × Int)))) (y : Bool) (h : F_laws_eqGraph x = some y) : G_laws_eqGraph FUEL x = some y := by
  obtain ⟨⟨a0, a1⟩, b0, b1⟩ := x
  simp only [F_laws_eqGraph] at h
  split at h
  · rename_i hl
    rw [← h]
    simp only [sz_Graph] at hl
    simp only [G_laws_eqGraph, F_laws_eqEdgeS, if_pos (show sz_EdgeS a1 ≤ 1048576 by omega), bnd_s]
    by_cases e0 : a0 = b0 <;> by_cases e1 : a1 = b1 <;> simp [neI_d, notB, cnd, *]
  · cases h

theorem eqs_IntS (x : List Int) (h : sz_IntS x ≤ 1048576) : F_laws_eqIntS (x, x) = some true := by
  have := show F_laws_eqIntS (x, x) = if sz_IntS x ≤ 1048576 then some (decide (x = x)) else none from rfl
  rw [this, if_pos h, decide_eq_true rfl]
theorem tos_IntS (x : List Int) (h : sz_IntS x ≤ 1048576) : F_laws_toIntS x = some x := if_pos h
theorem eqs_IntSS (x : List (List Int)) (h : sz_IntSS x ≤ 1048576) : F_laws_eqIntSS (x, x) = some true := by
  have := show F_laws_eqIntSS (x, x) = if sz_IntSS x ≤ 1048576 then some (decide (x = x)) else none from rfl
  rw [this, if_pos h, decide_eq_true rfl]
theorem tos_IntSS (x : List (List Int)) (h : sz_IntSS x ≤ 1048576) : F_laws_toIntSS x = some x := if_pos h
theorem eqs_Matrix (x : Int × Int × (List Int)) (h : sz_Matrix x ≤ 1048576) : F_laws_eqMatrix (x, x) = some true := by
  have := show F_laws_eqMatrix (x, x) = if sz_Matrix x ≤ 1048576 then some (decide (x = x)) else none from rfl
  rw [this, if_pos h, decide_eq_true rfl]
theorem tos_Matrix (x : Int × Int × (List Int)) (h : sz_Matrix x ≤ 1048576) : F_laws_toMatrix x = some x := if_pos h
theorem eqs_MatrixS (x : List (Int × Int × (List Int))) (h : sz_MatrixS x ≤ 1048576) : F_laws_eqMatrixS (x, x) = some true := by
  have := show F_laws_eqMatrixS (x, x) = if sz_MatrixS x ≤ 1048576 then some (decide (x = x)) else none from rfl
  rw [this, if_pos h, decide_eq_true rfl]
theorem tos_MatrixS (x : List (Int × Int × (List Int))) (h : sz_MatrixS x ≤ 1048576) : F_laws_toMatrixS x = some x := if_pos h
theorem eqs_Automaton (x : Int × Int × (List Int) × (List (Int × Int × (List Int))) × (List Int)) (h : sz_Automaton x ≤ 1048576) : F_laws_eqAutomaton (x, x) = some true := by
  have := show F_laws_eqAutomaton (x, x) = if sz_Automaton x ≤ 1048576 then some (decide (x = x)) else none from rfl
  rw [this, if_pos h, decide_eq_true rfl]
theorem tos_Automaton (x : Int × Int × (List Int) × (List (Int × Int × (List Int))) × (List Int)) (h : sz_Automaton x ≤ 1048576) : F_laws_toAutomaton x = some x := if_pos h
theorem eqs_Site (x : Int × Int × Int × (List Int)) (h : sz_Site x ≤ 1048576) : F_laws_eqSite (x, x) = some true := by
  have := show F_laws_eqSite (x, x) = if sz_Site x ≤ 1048576 then some (decide (x = x)) else none from rfl
  rw [this, if_pos h, decide_eq_true rfl]
theorem tos_Site (x : Int × Int × Int × (List Int)) (h : sz_Site x ≤ 1048576) : F_laws_toSite x = some x := if_pos h
theorem eqs_SiteS (x : List (Int × Int × Int × (List Int))) (h : sz_SiteS x ≤ 1048576) : F_laws_eqSiteS (x, x) = some true := by
  have := show F_laws_eqSiteS (x, x) = if sz_SiteS x ≤ 1048576 then some (decide (x = x)) else none from rfl
  rw [this, if_pos h, decide_eq_true rfl]
theorem tos_SiteS (x : List (Int × Int × Int × (List Int))) (h : sz_SiteS x ≤ 1048576) : F_laws_toSiteS x = some x := if_pos h
theorem eqs_Chain (x : Int × (List (Int × Int × Int × (List Int)))) (h : sz_Chain x ≤ 1048576) : F_laws_eqChain (x, x) = some true := by
  have := show F_laws_eqChain (x, x) = if sz_Chain x ≤ 1048576 then some (decide (x = x)) else none from rfl
  rw [this, if_pos h, decide_eq_true rfl]
theorem tos_Chain (x : Int × (List (Int × Int × Int × (List Int)))) (h : sz_Chain x ≤ 1048576) : F_laws_toChain x = some x := if_pos h
theorem eqs_Tensor (x : (List Int) × (List Int) × (List Int)) (h : sz_Tensor x ≤ 1048576) : F_laws_eqTensor (x, x) = some true := by
  have := show F_laws_eqTensor (x, x) = if sz_Tensor x ≤ 1048576 then some (decide (x = x)) else none from rfl
  rw [this, if_pos h, decide_eq_true rfl]
theorem tos_Tensor (x : (List Int) × (List Int) × (List Int)) (h : sz_Tensor x ≤ 1048576) : F_laws_toTensor x = some x := if_pos h
theorem eqs_Charges (x : Int × (List (List Int))) (h : sz_Charges x ≤ 1048576) : F_laws_eqCharges (x, x) = some true := by
  have := show F_laws_eqCharges (x, x) = if sz_Charges x ≤ 1048576 then some (decide (x = x)) else none from rfl
  rw [this, if_pos h, decide_eq_true rfl]
theorem tos_Charges (x : Int × (List (List Int))) (h : sz_Charges x ≤ 1048576) : F_laws_toCharges x = some x := if_pos h
theorem eqs_Edge (x : Int × Int) (h : sz_Edge x ≤ 1048576) : F_laws_eqEdge (x, x) = some true := by
  have := show F_laws_eqEdge (x, x) = if sz_Edge x ≤ 1048576 then some (decide (x = x)) else none from rfl
  rw [this, if_pos h, decide_eq_true rfl]
theorem tos_Edge (x : Int × Int) (h : sz_Edge x ≤ 1048576) : F_laws_toEdge x = some x := if_pos h
theorem eqs_EdgeS (x : List (Int × Int)) (h : sz_EdgeS x ≤ 1048576) : F_laws_eqEdgeS (x, x) = some true := by
  have := show F_laws_eqEdgeS (x, x) = if sz_EdgeS x ≤ 1048576 then some (decide (x = x)) else none from rfl
  rw [this, if_pos h, decide_eq_true rfl]
theorem tos_EdgeS (x : List (Int × Int)) (h : sz_EdgeS x ≤ 1048576) : F_laws_toEdgeS x = some x := if_pos h
theorem eqs_Graph (x : Int × (List (Int × Int))) (h : sz_Graph x ≤ 1048576) : F_laws_eqGraph (x, x) = some true := by
  have := show F_laws_eqGraph (x, x) = if sz_Graph x ≤ 1048576 then some (decide (x = x)) else none from rfl
  rw [this, if_pos h, decide_eq_true rfl]
theorem tos_Graph (x : Int × (List (Int × Int))) (h : sz_Graph x ≤ 1048576) : F_laws_toGraph x = some x := if_pos h
theorem sz_IntS_eq (l : List Int) : sz_IntS l = l.length + (l.map (fun _ => 0)).sum := by
  simp [sz_IntS, sum0]
theorem c4_IntS (l : List Int) : cnt_IntS l ≤ 4 * sz_IntS l := by
  rw [sz_IntS_eq]; exact cntL_le (fun _ => 1) (fun _ => 0) (fun e => by omega) l
theorem smk_IntS (l : List Int) (k : Int) : sz_IntS (mk_IntS l k) = sz_IntS l := by
  rw [sz_IntS_eq, sz_IntS_eq, mk_IntS, mkL_length, sum_map_mkL (fun _ => 1) (fun _ k => k) (fun _ => 0) (fun _ _ => rfl)]
theorem cmk_IntS (l : List Int) (k : Int) : cnt_IntS (mk_IntS l k) = cnt_IntS l := sum_map_mkL (fun _ => 1) (fun _ k => k) (fun _ => 1) (fun _ _ => rfl) l k
theorem mmk_IntS (l : List Int) (k : Int) : mk_IntS (mk_IntS l k) k = mk_IntS l k := mkL_mkL (fun _ => 1) (fun _ k => k) (fun _ _ => rfl) (fun _ _ => rfl) l k
theorem lmk_IntS (l : List Int) (k : Int) : (mk_IntS l k).length = l.length := mkL_length _ _ _ _

theorem f_laws_markIntS (x : (List Int) × Int) (y : Int × (List Int)) (h : F_laws_markIntS x = some y) : G_laws_markIntS FUEL x = some y := by
  obtain ⟨l, k⟩ := x
  simp only [F_laws_markIntS] at h
  split at h
  · rename_i hc
    obtain ⟨hk, hb⟩ := hc
    rw [sz_IntS_eq] at hb
    rw [← h]
    simp only [G_laws_markIntS, fulI_id, bnd_s]
    rw [mark_loop l (fun _ => 1) (fun _ => 0) (fun _ k => k) k (r := Sum.inl (k + (cnt_IntS l : Nat), mk_IntS l k)) (fun e => by omega) hk hb ?_ ?_]
    · rw [joinK_l]
      simp only
      rw [samI_ok (show lenN (mk_IntS l k) = lenN l from lmk_IntS l k), bnd_s]
    · intro i e ys k' he hy hi h0 hM
      have hgi : getN ys i = some e := hi
      simp only
      rw [cnd_t (ltI_in hi), next_i hi (by omega)]
      simp only [chkI_len hi, bnd_s, addN_0, hgi, lenN_setL, fulI_id]
      have e1 : addI .i64 k' 1 = k' + 1 := addI_eq (by omega) (by omega)
      simp only [e1]
      rfl
    · simp only
      rw [cnd_f (ltI_f (by have := lmk_IntS l k; have h2 := nl (mk_IntS l k); unfold mk_IntS at this h2; omega))]
      rfl
  · cases h

theorem f_laws_heldIntS (x : (List Int) × Int) (y : Int) (h : F_laws_heldIntS x = some y) : G_laws_heldIntS FUEL x = some y := by
  obtain ⟨l, k⟩ := x
  simp only [F_laws_heldIntS] at h
  split at h
  · rename_i hc
    obtain ⟨hk, hb⟩ := hc
    rw [sz_IntS_eq] at hb
    rw [← h]
    simp only [G_laws_heldIntS]
    rw [held_loop l (fun _ => 1) (fun _ => 0) (fun _ k => k) k (fun e => by omega) hk hb ?_ ?_]
    · unfold mk_IntS cnt_IntS
      by_cases hq : l = mkL (fun _ => 1) (fun _ k => k) l k
      · rw [if_pos hq, if_pos hq, joinK_l]
      · rw [if_neg hq, if_neg hq, joinK_r]
    · intro i e k' he h0 hM
      simp only
      rw [cnd_t (ltI_in he), getI_nat, he, bnd_s]
      have e1 : addI .i64 k' 1 = k' + 1 := addI_eq (by omega) (by omega)
      rw [e1, next_i he (by omega)]
      by_cases hq : e = k'
      · rw [cnd_f (neI_f hq), if_pos hq]; rfl
      · rw [cnd_t (neI_t hq), if_neg hq]
    · intro k'
      simp only
      rw [cnd_f (ltI_end l)]
  · cases h

theorem sz_IntSS_eq (l : List (List Int)) : sz_IntSS l = l.length + (l.map sz_IntS).sum := by
  rfl
theorem c4_IntSS (l : List (List Int)) : cnt_IntSS l ≤ 4 * sz_IntSS l := by
  rw [sz_IntSS_eq]; exact cntL_le cnt_IntS sz_IntS (fun e => by have := c4_IntS e; omega) l
theorem smk_IntSS (l : List (List Int)) (k : Int) : sz_IntSS (mk_IntSS l k) = sz_IntSS l := by
  rw [sz_IntSS_eq, sz_IntSS_eq, mk_IntSS, mkL_length, sum_map_mkL cnt_IntS mk_IntS sz_IntS smk_IntS]
theorem cmk_IntSS (l : List (List Int)) (k : Int) : cnt_IntSS (mk_IntSS l k) = cnt_IntSS l := sum_map_mkL cnt_IntS mk_IntS cnt_IntS cmk_IntS l k
theorem mmk_IntSS (l : List (List Int)) (k : Int) : mk_IntSS (mk_IntSS l k) k = mk_IntSS l k := mkL_mkL cnt_IntS mk_IntS cmk_IntS mmk_IntS l k
theorem lmk_IntSS (l : List (List Int)) (k : Int) : (mk_IntSS l k).length = l.length := mkL_length _ _ _ _

theorem f_laws_markIntSS (x : (List (List Int)) × Int) (y : Int × (List (List Int))) (h : F_laws_markIntSS x = some y) : G_laws_markIntSS FUEL x = some y := by
  obtain ⟨l, k⟩ := x
  simp only [F_laws_markIntSS] at h
  split at h
  · rename_i hc
    obtain ⟨hk, hb⟩ := hc
    rw [sz_IntSS_eq] at hb
    rw [← h]
    simp only [G_laws_markIntSS, fulI_id, bnd_s]
    rw [mark_loop l cnt_IntS sz_IntS mk_IntS k (r := Sum.inl (k + (cnt_IntSS l : Nat), mk_IntSS l k)) (fun e => by have := c4_IntS e; omega) hk hb ?_ ?_]
    · rw [joinK_l]
      simp only
      rw [samI_ok (show lenN (mk_IntSS l k) = lenN l from lmk_IntSS l k), bnd_s]
    · rintro i e0 ys k' he hy hi h0 hM
      have hgi : getN ys i = some e0 := hi
      simp only
      rw [cnd_t (ltI_in hi), next_i hi (by omega)]
      simp only [chkI_len hi, bnd_s, addN_0, hgi, lenN_setL, fulI_id]
      have c4e0 := c4_IntS e0
      have E0 : F_laws_markIntS (e0, k') = some (k' + (cnt_IntS e0 : Nat), mk_IntS e0 (k')) := if_pos ⟨by omega, by omega⟩
      simp only [E0, bnd_s, getN_set hi, setL_setL, lenN_setL, fulI_id]
      refine congrArg some (congrArg Sum.inl (Prod.ext (Prod.ext ?_ rfl) rfl))
      simp only [cnt_IntS]
    · simp only
      rw [cnd_f (ltI_f (by have := lmk_IntSS l k; have h2 := nl (mk_IntSS l k); unfold mk_IntSS at this h2; omega))]
      rfl
  · cases h

theorem f_laws_heldIntSS (x : (List (List Int)) × Int) (y : Int) (h : F_laws_heldIntSS x = some y) : G_laws_heldIntSS FUEL x = some y := by
  obtain ⟨l, k⟩ := x
  simp only [F_laws_heldIntSS] at h
  split at h
  · rename_i hc
    obtain ⟨hk, hb⟩ := hc
    rw [sz_IntSS_eq] at hb
    rw [← h]
    simp only [G_laws_heldIntSS]
    rw [held_loop l cnt_IntS sz_IntS mk_IntS k (fun e => by have := c4_IntS e; omega) hk hb ?_ ?_]
    · unfold mk_IntSS cnt_IntSS
      by_cases hq : l = mkL cnt_IntS mk_IntS l k
      · rw [if_pos hq, if_pos hq, joinK_l]
      · rw [if_neg hq, if_neg hq, joinK_r]
    · rintro i e0 k' he h0 hM
      simp only
      have c4e0 := c4_IntS e0
      rw [cnd_t (ltI_in he), next_i he (by omega)]
      have E0 : F_laws_heldIntS (e0, k') = some (if e0 = mk_IntS e0 (k') then k' + (cnt_IntS e0 : Nat) else -1) := if_pos ⟨by omega, by omega⟩
      simp only [getI_nat, he, bnd_s]
      rw [heldK (by omega) E0]
    · intro k'
      simp only
      rw [cnd_f (ltI_end l)]
  · cases h

theorem c4_Matrix (x : Int × Int × (List Int)) : cnt_Matrix x ≤ 4 * sz_Matrix x := by
  obtain ⟨a0, a1, a2⟩ := x
  have c4a2 := c4_IntS a2
  simp only [cnt_Matrix, sz_Matrix]
  omega
theorem smk_Matrix (x : Int × Int × (List Int)) (k : Int) : sz_Matrix (mk_Matrix x k) = sz_Matrix x := by
  obtain ⟨a0, a1, a2⟩ := x
  simp only [mk_Matrix, sz_Matrix, smk_IntS]
theorem cmk_Matrix (x : Int × Int × (List Int)) (k : Int) : cnt_Matrix (mk_Matrix x k) = cnt_Matrix x := by
  obtain ⟨a0, a1, a2⟩ := x
  simp only [mk_Matrix, cnt_Matrix, cmk_IntS]
theorem mmk_Matrix (x : Int × Int × (List Int)) (k : Int) : mk_Matrix (mk_Matrix x k) k = mk_Matrix x k := by
  obtain ⟨a0, a1, a2⟩ := x
  simp only [mk_Matrix, cmk_IntS, mmk_IntS]

theorem f_laws_markMatrix (x : (Int × Int × (List Int)) × Int) (y : Int × (List Int)) (h : F_laws_markMatrix x = some y) : G_laws_markMatrix FUEL x = some y := by
  obtain ⟨⟨a0, a1, a2⟩, k⟩ := x
  simp only [F_laws_markMatrix] at h
  split at h
  · rename_i hc
    obtain ⟨hk, hb⟩ := hc
    simp only [sz_Matrix] at hb
    have c4a2 := c4_IntS a2
    rw [← h]
    have e0 : F_laws_markIntS (a2, k) = some (k + (cnt_IntS a2 : Nat), mk_IntS a2 (k)) := if_pos ⟨by omega, by omega⟩
    simp only [G_laws_markMatrix, fulI_id, bnd_s, e0, samI_ok (show lenN (mk_IntS a2 (k)) = lenN a2 from lmk_IntS a2 (k))]
  · cases h

theorem f_laws_heldMatrix (x : (Int × Int × (List Int)) × Int) (y : Int) (h : F_laws_heldMatrix x = some y) : G_laws_heldMatrix FUEL x = some y := by
  obtain ⟨⟨a0, a1, a2⟩, k⟩ := x
  simp only [F_laws_heldMatrix] at h
  split at h
  · rename_i hc
    obtain ⟨hk, hb⟩ := hc
    simp only [sz_Matrix] at hb
    have c4a2 := c4_IntS a2
    rw [← h]
    have e0 : F_laws_heldIntS (a2, k) = some (if a2 = mk_IntS a2 (k) then k + (cnt_IntS a2 : Nat) else -1) := if_pos ⟨by omega, by omega⟩
    simp only [G_laws_heldMatrix]
    rw [heldK (by omega) e0]
    by_cases q0 : a2 = mk_IntS a2 (k)
    case neg => rw [if_neg q0, if_neg (fun h => q0 h)]
    rw [if_pos q0]
    rw [if_pos q0]
  · cases h

theorem cE4_Matrix (x : Int × Int × (List Int)) : cntE_Matrix x ≤ 4 * (1 + sz_Matrix x) := by
  obtain ⟨a0, a1, a2⟩ := x
  have h0 := c4_IntS a2
  simp only [cntE_Matrix, sz_Matrix]
  omega
theorem smkE_Matrix (x : Int × Int × (List Int)) (k : Int) : sz_Matrix (mkE_Matrix x k) = sz_Matrix x := by
  obtain ⟨a0, a1, a2⟩ := x
  simp only [mkE_Matrix, sz_Matrix, smk_IntS]
theorem cmkE_Matrix (x : Int × Int × (List Int)) (k : Int) : cntE_Matrix (mkE_Matrix x k) = cntE_Matrix x := by
  obtain ⟨a0, a1, a2⟩ := x
  simp only [mkE_Matrix, cntE_Matrix, cmk_IntS]
theorem mmkE_Matrix (x : Int × Int × (List Int)) (k : Int) : mkE_Matrix (mkE_Matrix x k) k = mkE_Matrix x k := by
  obtain ⟨a0, a1, a2⟩ := x
  simp only [mkE_Matrix, cmk_IntS, mmk_IntS]

theorem sz_MatrixS_eq (l : List (Int × Int × (List Int))) : sz_MatrixS l = l.length + (l.map sz_Matrix).sum := by
  rfl
theorem c4_MatrixS (l : List (Int × Int × (List Int))) : cnt_MatrixS l ≤ 4 * sz_MatrixS l := by
  rw [sz_MatrixS_eq]; exact cntL_le cntE_Matrix sz_Matrix cE4_Matrix l
theorem smk_MatrixS (l : List (Int × Int × (List Int))) (k : Int) : sz_MatrixS (mk_MatrixS l k) = sz_MatrixS l := by
  rw [sz_MatrixS_eq, sz_MatrixS_eq, mk_MatrixS, mkL_length, sum_map_mkL cntE_Matrix mkE_Matrix sz_Matrix smkE_Matrix]
theorem cmk_MatrixS (l : List (Int × Int × (List Int))) (k : Int) : cnt_MatrixS (mk_MatrixS l k) = cnt_MatrixS l := sum_map_mkL cntE_Matrix mkE_Matrix cntE_Matrix cmkE_Matrix l k
theorem mmk_MatrixS (l : List (Int × Int × (List Int))) (k : Int) : mk_MatrixS (mk_MatrixS l k) k = mk_MatrixS l k := mkL_mkL cntE_Matrix mkE_Matrix cmkE_Matrix mmkE_Matrix l k
theorem lmk_MatrixS (l : List (Int × Int × (List Int))) (k : Int) : (mk_MatrixS l k).length = l.length := mkL_length _ _ _ _

theorem f_laws_markMatrixS (x : (List (Int × Int × (List Int))) × Int) (y : Int × (List (Int × Int × (List Int)))) (h : F_laws_markMatrixS x = some y) : G_laws_markMatrixS FUEL x = some y := by
  obtain ⟨l, k⟩ := x
  simp only [F_laws_markMatrixS] at h
  split at h
  · rename_i hc
    obtain ⟨hk, hb⟩ := hc
    rw [sz_MatrixS_eq] at hb
    rw [← h]
    simp only [G_laws_markMatrixS, fulI_id, bnd_s]
    rw [mark_loop l cntE_Matrix sz_Matrix mkE_Matrix k (r := Sum.inl (k + (cnt_MatrixS l : Nat), mk_MatrixS l k)) cE4_Matrix hk hb ?_ ?_]
    · rw [joinK_l]
      simp only
      rw [samI_ok (show lenN (mk_MatrixS l k) = lenN l from lmk_MatrixS l k), bnd_s]
    · rintro i ⟨a0, a1, a2⟩ ys k' he hy hi h0 hM
      have hgi : getN ys i = some (a0, a1, a2) := hi
      simp only
      rw [cnd_t (ltI_in hi), next_i hi (by omega)]
      simp only [chkI_len hi, bnd_s, addN_0, hgi, lenN_setL, fulI_id]
      have c4a2 := c4_IntS a2
      simp only [sz_Matrix] at hM
      have E0 : addI .i64 (k') 1 = k' + 1 := addI_eq (by omega) (by omega)
      have E1 : addI .i64 (k' + 1) 1 = k' + 1 + 1 := addI_eq (by omega) (by omega)
      have E2 : F_laws_markIntS (a2, k' + 1 + 1) = some (k' + 1 + 1 + (cnt_IntS a2 : Nat), mk_IntS a2 (k' + 1 + 1)) := if_pos ⟨by omega, by omega⟩
      simp only [E0, E1, E2, bnd_s, getN_set hi, setL_setL, lenN_setL, fulI_id]
      refine congrArg some (congrArg Sum.inl (Prod.ext (Prod.ext ?_ rfl) rfl))
      simp only [cntE_Matrix]
      omega
    · simp only
      rw [cnd_f (ltI_f (by have := lmk_MatrixS l k; have h2 := nl (mk_MatrixS l k); unfold mk_MatrixS at this h2; omega))]
      rfl
  · cases h

theorem f_laws_heldMatrixS (x : (List (Int × Int × (List Int))) × Int) (y : Int) (h : F_laws_heldMatrixS x = some y) : G_laws_heldMatrixS FUEL x = some y := by
  obtain ⟨l, k⟩ := x
  simp only [F_laws_heldMatrixS] at h
  split at h
  · rename_i hc
    obtain ⟨hk, hb⟩ := hc
    rw [sz_MatrixS_eq] at hb
    rw [← h]
    simp only [G_laws_heldMatrixS]
    rw [held_loop l cntE_Matrix sz_Matrix mkE_Matrix k cE4_Matrix hk hb ?_ ?_]
    · unfold mk_MatrixS cnt_MatrixS
      by_cases hq : l = mkL cntE_Matrix mkE_Matrix l k
      · rw [if_pos hq, if_pos hq, joinK_l]
      · rw [if_neg hq, if_neg hq, joinK_r]
    · rintro i ⟨a0, a1, a2⟩ k' he h0 hM
      simp only
      have c4a2 := c4_IntS a2
      simp only [sz_Matrix] at hM
      rw [cnd_t (ltI_in he), next_i he (by omega)]
      have E0 : addI .i64 (k') 1 = k' + 1 := addI_eq (by omega) (by omega)
      have E1 : addI .i64 (k' + 1) 1 = k' + 1 + 1 := addI_eq (by omega) (by omega)
      have E2 : F_laws_heldIntS (a2, k' + 1 + 1) = some (if a2 = mk_IntS a2 (k' + 1 + 1) then k' + 1 + 1 + (cnt_IntS a2 : Nat) else -1) := if_pos ⟨by omega, by omega⟩
      simp only [getI_nat, he, bnd_s, E0, E1]
      by_cases q0 : a0 = k'
      case neg => rw [cnd_t (neI_t q0), if_neg (fun h => q0 (show a0 = k' ∧ a1 = k' + 1 ∧ a2 = mk_IntS a2 (k' + 1 + 1) from by simpa only [mkE_Matrix, Prod.mk.injEq] using h).1)]
      rw [cnd_f (neI_f q0)]
      by_cases q1 : a1 = k' + 1
      case neg => rw [cnd_t (neI_t q1), if_neg (fun h => q1 (show a0 = k' ∧ a1 = k' + 1 ∧ a2 = mk_IntS a2 (k' + 1 + 1) from by simpa only [mkE_Matrix, Prod.mk.injEq] using h).2.1)]
      rw [cnd_f (neI_f q1)]
      rw [heldK (by omega) E2]
      by_cases q2 : a2 = mk_IntS a2 (k' + 1 + 1)
      case neg => rw [if_neg q2, if_neg (fun h => q2 (show a0 = k' ∧ a1 = k' + 1 ∧ a2 = mk_IntS a2 (k' + 1 + 1) from by simpa only [mkE_Matrix, Prod.mk.injEq] using h).2.2)]
      rw [if_pos q2]
      rw [if_pos (show (a0, a1, a2) = mkE_Matrix (a0, a1, a2) k' from by simp only [mkE_Matrix, Prod.mk.injEq]; exact ⟨q0, q1, q2⟩)]
      refine congrArg some (congrArg Sum.inl (Prod.ext rfl (Prod.ext ?_ rfl)))
      simp only [cntE_Matrix]
      omega
    · intro k'
      simp only
      rw [cnd_f (ltI_end l)]
  · cases h

theorem c4_Automaton (x : Int × Int × (List Int) × (List (Int × Int × (List Int))) × (List Int)) : cnt_Automaton x ≤ 4 * sz_Automaton x := by
  obtain ⟨a0, a1, a2, a3, a4⟩ := x
  have c4a2 := c4_IntS a2
  have c4a3 := c4_MatrixS a3
  have c4a4 := c4_IntS a4
  simp only [cnt_Automaton, sz_Automaton]
  omega
theorem smk_Automaton (x : Int × Int × (List Int) × (List (Int × Int × (List Int))) × (List Int)) (k : Int) : sz_Automaton (mk_Automaton x k) = sz_Automaton x := by
  obtain ⟨a0, a1, a2, a3, a4⟩ := x
  simp only [mk_Automaton, sz_Automaton, smk_IntS, smk_MatrixS]
theorem cmk_Automaton (x : Int × Int × (List Int) × (List (Int × Int × (List Int))) × (List Int)) (k : Int) : cnt_Automaton (mk_Automaton x k) = cnt_Automaton x := by
  obtain ⟨a0, a1, a2, a3, a4⟩ := x
  simp only [mk_Automaton, cnt_Automaton, cmk_IntS, cmk_MatrixS]
theorem mmk_Automaton (x : Int × Int × (List Int) × (List (Int × Int × (List Int))) × (List Int)) (k : Int) : mk_Automaton (mk_Automaton x k) k = mk_Automaton x k := by
  obtain ⟨a0, a1, a2, a3, a4⟩ := x
  simp only [mk_Automaton, cmk_IntS, mmk_IntS, cmk_MatrixS, mmk_MatrixS]

theorem f_laws_markAutomaton (x : (Int × Int × (List Int) × (List (Int × Int × (List Int))) × (List Int)) × Int) (y : Int × (List Int) × (List (Int × Int × (List Int))) × (List Int)) (h : F_laws_markAutomaton x = some y) : G_laws_markAutomaton FUEL x = some y := by
  obtain ⟨⟨a0, a1, a2, a3, a4⟩, k⟩ := x
  simp only [F_laws_markAutomaton] at h
  split at h
  · rename_i hc
    obtain ⟨hk, hb⟩ := hc
    simp only [sz_Automaton] at hb
    have c4a2 := c4_IntS a2
    have c4a3 := c4_MatrixS a3
    have c4a4 := c4_IntS a4
    rw [← h]
    have e0 : F_laws_markIntS (a2, k) = some (k + (cnt_IntS a2 : Nat), mk_IntS a2 (k)) := if_pos ⟨by omega, by omega⟩
    have e1 : F_laws_markMatrixS (a3, k + (cnt_IntS a2 : Nat)) = some (k + (cnt_IntS a2 : Nat) + (cnt_MatrixS a3 : Nat), mk_MatrixS a3 (k + (cnt_IntS a2 : Nat))) := if_pos ⟨by omega, by omega⟩
    have e2 : F_laws_markIntS (a4, k + (cnt_IntS a2 : Nat) + (cnt_MatrixS a3 : Nat)) = some (k + (cnt_IntS a2 : Nat) + (cnt_MatrixS a3 : Nat) + (cnt_IntS a4 : Nat), mk_IntS a4 (k + (cnt_IntS a2 : Nat) + (cnt_MatrixS a3 : Nat))) := if_pos ⟨by omega, by omega⟩
    simp only [G_laws_markAutomaton, fulI_id, bnd_s, e0, e1, e2, samI_ok (show lenN (mk_IntS a2 (k)) = lenN a2 from lmk_IntS a2 (k)), samI_ok (show lenN (mk_MatrixS a3 (k + (cnt_IntS a2 : Nat))) = lenN a3 from lmk_MatrixS a3 (k + (cnt_IntS a2 : Nat))), samI_ok (show lenN (mk_IntS a4 (k + (cnt_IntS a2 : Nat) + (cnt_MatrixS a3 : Nat))) = lenN a4 from lmk_IntS a4 (k + (cnt_IntS a2 : Nat) + (cnt_MatrixS a3 : Nat)))]
  · cases h

theorem f_laws_heldAutomaton (x : (Int × Int × (List Int) × (List (Int × Int × (List Int))) × (List Int)) × Int) (y : Int) (h : F_laws_heldAutomaton x = some y) : G_laws_heldAutomaton FUEL x = some y := by
  obtain ⟨⟨a0, a1, a2, a3, a4⟩, k⟩ := x
  simp only [F_laws_heldAutomaton] at h
  split at h
  · rename_i hc
    obtain ⟨hk, hb⟩ := hc
    simp only [sz_Automaton] at hb
    have c4a2 := c4_IntS a2
    have c4a3 := c4_MatrixS a3
    have c4a4 := c4_IntS a4
    rw [← h]
    have e0 : F_laws_heldIntS (a2, k) = some (if a2 = mk_IntS a2 (k) then k + (cnt_IntS a2 : Nat) else -1) := if_pos ⟨by omega, by omega⟩
    have e1 : F_laws_heldMatrixS (a3, k + (cnt_IntS a2 : Nat)) = some (if a3 = mk_MatrixS a3 (k + (cnt_IntS a2 : Nat)) then k + (cnt_IntS a2 : Nat) + (cnt_MatrixS a3 : Nat) else -1) := if_pos ⟨by omega, by omega⟩
    have e2 : F_laws_heldIntS (a4, k + (cnt_IntS a2 : Nat) + (cnt_MatrixS a3 : Nat)) = some (if a4 = mk_IntS a4 (k + (cnt_IntS a2 : Nat) + (cnt_MatrixS a3 : Nat)) then k + (cnt_IntS a2 : Nat) + (cnt_MatrixS a3 : Nat) + (cnt_IntS a4 : Nat) else -1) := if_pos ⟨by omega, by omega⟩
    simp only [G_laws_heldAutomaton]
    rw [heldK (by omega) e0]
    by_cases q0 : a2 = mk_IntS a2 (k)
    case neg => rw [if_neg q0, if_neg (fun h => q0 h.1)]
    rw [if_pos q0]
    rw [heldK (by omega) e1]
    by_cases q1 : a3 = mk_MatrixS a3 (k + (cnt_IntS a2 : Nat))
    case neg => rw [if_neg q1, if_neg (fun h => q1 h.2.1)]
    rw [if_pos q1]
    rw [heldK (by omega) e2]
    by_cases q2 : a4 = mk_IntS a4 (k + (cnt_IntS a2 : Nat) + (cnt_MatrixS a3 : Nat))
    case neg => rw [if_neg q2, if_neg (fun h => q2 h.2.2)]
    rw [if_pos q2]
    rw [if_pos ⟨q0, q1, q2⟩]
  · cases h

theorem cE4_Site (x : Int × Int × Int × (List Int)) : cntE_Site x ≤ 4 * (1 + sz_Site x) := by
  obtain ⟨a0, a1, a2, a3⟩ := x
  have h0 := c4_IntS a3
  simp only [cntE_Site, sz_Site]
  omega
theorem smkE_Site (x : Int × Int × Int × (List Int)) (k : Int) : sz_Site (mkE_Site x k) = sz_Site x := by
  obtain ⟨a0, a1, a2, a3⟩ := x
  simp only [mkE_Site, sz_Site, smk_IntS]
theorem cmkE_Site (x : Int × Int × Int × (List Int)) (k : Int) : cntE_Site (mkE_Site x k) = cntE_Site x := by
  obtain ⟨a0, a1, a2, a3⟩ := x
  simp only [mkE_Site, cntE_Site, cmk_IntS]
theorem mmkE_Site (x : Int × Int × Int × (List Int)) (k : Int) : mkE_Site (mkE_Site x k) k = mkE_Site x k := by
  obtain ⟨a0, a1, a2, a3⟩ := x
  simp only [mkE_Site, cmk_IntS, mmk_IntS]

theorem sz_SiteS_eq (l : List (Int × Int × Int × (List Int))) : sz_SiteS l = l.length + (l.map sz_Site).sum := by
  rfl
theorem c4_SiteS (l : List (Int × Int × Int × (List Int))) : cnt_SiteS l ≤ 4 * sz_SiteS l := by
  rw [sz_SiteS_eq]; exact cntL_le cntE_Site sz_Site cE4_Site l
theorem smk_SiteS (l : List (Int × Int × Int × (List Int))) (k : Int) : sz_SiteS (mk_SiteS l k) = sz_SiteS l := by
  rw [sz_SiteS_eq, sz_SiteS_eq, mk_SiteS, mkL_length, sum_map_mkL cntE_Site mkE_Site sz_Site smkE_Site]
theorem cmk_SiteS (l : List (Int × Int × Int × (List Int))) (k : Int) : cnt_SiteS (mk_SiteS l k) = cnt_SiteS l := sum_map_mkL cntE_Site mkE_Site cntE_Site cmkE_Site l k
theorem mmk_SiteS (l : List (Int × Int × Int × (List Int))) (k : Int) : mk_SiteS (mk_SiteS l k) k = mk_SiteS l k := mkL_mkL cntE_Site mkE_Site cmkE_Site mmkE_Site l k
theorem lmk_SiteS (l : List (Int × Int × Int × (List Int))) (k : Int) : (mk_SiteS l k).length = l.length := mkL_length _ _ _ _

theorem f_laws_markSiteS (x : (List (Int × Int × Int × (List Int))) × Int) (y : Int × (List (Int × Int × Int × (List Int)))) (h : F_laws_markSiteS x = some y) : G_laws_markSiteS FUEL x = some y := by
  obtain ⟨l, k⟩ := x
  simp only [F_laws_markSiteS] at h
  split at h
  · rename_i hc
    obtain ⟨hk, hb⟩ := hc
    rw [sz_SiteS_eq] at hb
    rw [← h]
    simp only [G_laws_markSiteS, fulI_id, bnd_s]
    rw [mark_loop l cntE_Site sz_Site mkE_Site k (r := Sum.inl (k + (cnt_SiteS l : Nat), mk_SiteS l k)) cE4_Site hk hb ?_ ?_]
    · rw [joinK_l]
      simp only
      rw [samI_ok (show lenN (mk_SiteS l k) = lenN l from lmk_SiteS l k), bnd_s]
    · rintro i ⟨a0, a1, a2, a3⟩ ys k' he hy hi h0 hM
      have hgi : getN ys i = some (a0, a1, a2, a3) := hi
      simp only
      rw [cnd_t (ltI_in hi), next_i hi (by omega)]
      simp only [chkI_len hi, bnd_s, addN_0, hgi, lenN_setL, fulI_id]
      have c4a3 := c4_IntS a3
      simp only [sz_Site] at hM
      have E0 : addI .i64 (k') 1 = k' + 1 := addI_eq (by omega) (by omega)
      have E1 : addI .i64 (k' + 1) 1 = k' + 1 + 1 := addI_eq (by omega) (by omega)
      have E2 : addI .i64 (k' + 1 + 1) 1 = k' + 1 + 1 + 1 := addI_eq (by omega) (by omega)
      have E3 : F_laws_markIntS (a3, k' + 1 + 1 + 1) = some (k' + 1 + 1 + 1 + (cnt_IntS a3 : Nat), mk_IntS a3 (k' + 1 + 1 + 1)) := if_pos ⟨by omega, by omega⟩
      simp only [E0, E1, E2, E3, bnd_s, getN_set hi, setL_setL, lenN_setL, fulI_id]
      refine congrArg some (congrArg Sum.inl (Prod.ext (Prod.ext ?_ rfl) rfl))
      simp only [cntE_Site]
      omega
    · simp only
      rw [cnd_f (ltI_f (by have := lmk_SiteS l k; have h2 := nl (mk_SiteS l k); unfold mk_SiteS at this h2; omega))]
      rfl
  · cases h

theorem f_laws_heldSiteS (x : (List (Int × Int × Int × (List Int))) × Int) (y : Int) (h : F_laws_heldSiteS x = some y) : G_laws_heldSiteS FUEL x = some y := by
  obtain ⟨l, k⟩ := x
  simp only [F_laws_heldSiteS] at h
  split at h
  · rename_i hc
    obtain ⟨hk, hb⟩ := hc
    rw [sz_SiteS_eq] at hb
    rw [← h]
    simp only [G_laws_heldSiteS]
    rw [held_loop l cntE_Site sz_Site mkE_Site k cE4_Site hk hb ?_ ?_]
    · unfold mk_SiteS cnt_SiteS
      by_cases hq : l = mkL cntE_Site mkE_Site l k
      · rw [if_pos hq, if_pos hq, joinK_l]
      · rw [if_neg hq, if_neg hq, joinK_r]
    · rintro i ⟨a0, a1, a2, a3⟩ k' he h0 hM
      simp only
      have c4a3 := c4_IntS a3
      simp only [sz_Site] at hM
      rw [cnd_t (ltI_in he), next_i he (by omega)]
      have E0 : addI .i64 (k') 1 = k' + 1 := addI_eq (by omega) (by omega)
      have E1 : addI .i64 (k' + 1) 1 = k' + 1 + 1 := addI_eq (by omega) (by omega)
      have E2 : addI .i64 (k' + 1 + 1) 1 = k' + 1 + 1 + 1 := addI_eq (by omega) (by omega)
      have E3 : F_laws_heldIntS (a3, k' + 1 + 1 + 1) = some (if a3 = mk_IntS a3 (k' + 1 + 1 + 1) then k' + 1 + 1 + 1 + (cnt_IntS a3 : Nat) else -1) := if_pos ⟨by omega, by omega⟩
      simp only [getI_nat, he, bnd_s, E0, E1, E2]
      by_cases q0 : a0 = k'
      case neg => rw [cnd_t (neI_t q0), if_neg (fun h => q0 (show a0 = k' ∧ a1 = k' + 1 ∧ a2 = k' + 1 + 1 ∧ a3 = mk_IntS a3 (k' + 1 + 1 + 1) from by simpa only [mkE_Site, Prod.mk.injEq] using h).1)]
      rw [cnd_f (neI_f q0)]
      by_cases q1 : a1 = k' + 1
      case neg => rw [cnd_t (neI_t q1), if_neg (fun h => q1 (show a0 = k' ∧ a1 = k' + 1 ∧ a2 = k' + 1 + 1 ∧ a3 = mk_IntS a3 (k' + 1 + 1 + 1) from by simpa only [mkE_Site, Prod.mk.injEq] using h).2.1)]
      rw [cnd_f (neI_f q1)]
      by_cases q2 : a2 = k' + 1 + 1
      case neg => rw [cnd_t (neI_t q2), if_neg (fun h => q2 (show a0 = k' ∧ a1 = k' + 1 ∧ a2 = k' + 1 + 1 ∧ a3 = mk_IntS a3 (k' + 1 + 1 + 1) from by simpa only [mkE_Site, Prod.mk.injEq] using h).2.2.1)]
      rw [cnd_f (neI_f q2)]
      rw [heldK (by omega) E3]
      by_cases q3 : a3 = mk_IntS a3 (k' + 1 + 1 + 1)
      case neg => rw [if_neg q3, if_neg (fun h => q3 (show a0 = k' ∧ a1 = k' + 1 ∧ a2 = k' + 1 + 1 ∧ a3 = mk_IntS a3 (k' + 1 + 1 + 1) from by simpa only [mkE_Site, Prod.mk.injEq] using h).2.2.2)]
      rw [if_pos q3]
      rw [if_pos (show (a0, a1, a2, a3) = mkE_Site (a0, a1, a2, a3) k' from by simp only [mkE_Site, Prod.mk.injEq]; exact ⟨q0, q1, q2, q3⟩)]
      refine congrArg some (congrArg Sum.inl (Prod.ext rfl (Prod.ext ?_ rfl)))
      simp only [cntE_Site]
      omega
    · intro k'
      simp only
      rw [cnd_f (ltI_end l)]
  · cases h

theorem c4_Chain (x : Int × (List (Int × Int × Int × (List Int)))) : cnt_Chain x ≤ 4 * sz_Chain x := by
  obtain ⟨a0, a1⟩ := x
  have c4a1 := c4_SiteS a1
  simp only [cnt_Chain, sz_Chain]
  omega
theorem smk_Chain (x : Int × (List (Int × Int × Int × (List Int)))) (k : Int) : sz_Chain (mk_Chain x k) = sz_Chain x := by
  obtain ⟨a0, a1⟩ := x
  simp only [mk_Chain, sz_Chain, smk_SiteS]
theorem cmk_Chain (x : Int × (List (Int × Int × Int × (List Int)))) (k : Int) : cnt_Chain (mk_Chain x k) = cnt_Chain x := by
  obtain ⟨a0, a1⟩ := x
  simp only [mk_Chain, cnt_Chain, cmk_SiteS]
theorem mmk_Chain (x : Int × (List (Int × Int × Int × (List Int)))) (k : Int) : mk_Chain (mk_Chain x k) k = mk_Chain x k := by
  obtain ⟨a0, a1⟩ := x
  simp only [mk_Chain, cmk_SiteS, mmk_SiteS]

theorem f_laws_markChain (x : (Int × (List (Int × Int × Int × (List Int)))) × Int) (y : Int × (List (Int × Int × Int × (List Int)))) (h : F_laws_markChain x = some y) : G_laws_markChain FUEL x = some y := by
  obtain ⟨⟨a0, a1⟩, k⟩ := x
  simp only [F_laws_markChain] at h
  split at h
  · rename_i hc
    obtain ⟨hk, hb⟩ := hc
    simp only [sz_Chain] at hb
    have c4a1 := c4_SiteS a1
    rw [← h]
    have e0 : F_laws_markSiteS (a1, k) = some (k + (cnt_SiteS a1 : Nat), mk_SiteS a1 (k)) := if_pos ⟨by omega, by omega⟩
    simp only [G_laws_markChain, fulI_id, bnd_s, e0, samI_ok (show lenN (mk_SiteS a1 (k)) = lenN a1 from lmk_SiteS a1 (k))]
  · cases h

theorem f_laws_heldChain (x : (Int × (List (Int × Int × Int × (List Int)))) × Int) (y : Int) (h : F_laws_heldChain x = some y) : G_laws_heldChain FUEL x = some y := by
  obtain ⟨⟨a0, a1⟩, k⟩ := x
  simp only [F_laws_heldChain] at h
  split at h
  · rename_i hc
    obtain ⟨hk, hb⟩ := hc
    simp only [sz_Chain] at hb
    have c4a1 := c4_SiteS a1
    rw [← h]
    have e0 : F_laws_heldSiteS (a1, k) = some (if a1 = mk_SiteS a1 (k) then k + (cnt_SiteS a1 : Nat) else -1) := if_pos ⟨by omega, by omega⟩
    simp only [G_laws_heldChain]
    rw [heldK (by omega) e0]
    by_cases q0 : a1 = mk_SiteS a1 (k)
    case neg => rw [if_neg q0, if_neg (fun h => q0 h)]
    rw [if_pos q0]
    rw [if_pos q0]
  · cases h

theorem c4_Tensor (x : (List Int) × (List Int) × (List Int)) : cnt_Tensor x ≤ 4 * sz_Tensor x := by
  obtain ⟨a0, a1, a2⟩ := x
  have c4a0 := c4_IntS a0
  have c4a1 := c4_IntS a1
  have c4a2 := c4_IntS a2
  simp only [cnt_Tensor, sz_Tensor]
  omega
theorem smk_Tensor (x : (List Int) × (List Int) × (List Int)) (k : Int) : sz_Tensor (mk_Tensor x k) = sz_Tensor x := by
  obtain ⟨a0, a1, a2⟩ := x
  simp only [mk_Tensor, sz_Tensor, smk_IntS]
theorem cmk_Tensor (x : (List Int) × (List Int) × (List Int)) (k : Int) : cnt_Tensor (mk_Tensor x k) = cnt_Tensor x := by
  obtain ⟨a0, a1, a2⟩ := x
  simp only [mk_Tensor, cnt_Tensor, cmk_IntS]
theorem mmk_Tensor (x : (List Int) × (List Int) × (List Int)) (k : Int) : mk_Tensor (mk_Tensor x k) k = mk_Tensor x k := by
  obtain ⟨a0, a1, a2⟩ := x
  simp only [mk_Tensor, cmk_IntS, mmk_IntS]

theorem f_laws_markTensor (x : ((List Int) × (List Int) × (List Int)) × Int) (y : Int × (List Int) × (List Int) × (List Int)) (h : F_laws_markTensor x = some y) : G_laws_markTensor FUEL x = some y := by
  obtain ⟨⟨a0, a1, a2⟩, k⟩ := x
  simp only [F_laws_markTensor] at h
  split at h
  · rename_i hc
    obtain ⟨hk, hb⟩ := hc
    simp only [sz_Tensor] at hb
    have c4a0 := c4_IntS a0
    have c4a1 := c4_IntS a1
    have c4a2 := c4_IntS a2
    rw [← h]
    have e0 : F_laws_markIntS (a0, k) = some (k + (cnt_IntS a0 : Nat), mk_IntS a0 (k)) := if_pos ⟨by omega, by omega⟩
    have e1 : F_laws_markIntS (a1, k + (cnt_IntS a0 : Nat)) = some (k + (cnt_IntS a0 : Nat) + (cnt_IntS a1 : Nat), mk_IntS a1 (k + (cnt_IntS a0 : Nat))) := if_pos ⟨by omega, by omega⟩
    have e2 : F_laws_markIntS (a2, k + (cnt_IntS a0 : Nat) + (cnt_IntS a1 : Nat)) = some (k + (cnt_IntS a0 : Nat) + (cnt_IntS a1 : Nat) + (cnt_IntS a2 : Nat), mk_IntS a2 (k + (cnt_IntS a0 : Nat) + (cnt_IntS a1 : Nat))) := if_pos ⟨by omega, by omega⟩
    simp only [G_laws_markTensor, fulI_id, bnd_s, e0, e1, e2, samI_ok (show lenN (mk_IntS a0 (k)) = lenN a0 from lmk_IntS a0 (k)), samI_ok (show lenN (mk_IntS a1 (k + (cnt_IntS a0 : Nat))) = lenN a1 from lmk_IntS a1 (k + (cnt_IntS a0 : Nat))), samI_ok (show lenN (mk_IntS a2 (k + (cnt_IntS a0 : Nat) + (cnt_IntS a1 : Nat))) = lenN a2 from lmk_IntS a2 (k + (cnt_IntS a0 : Nat) + (cnt_IntS a1 : Nat)))]
  · cases h

theorem f_laws_heldTensor (x : ((List Int) × (List Int) × (List Int)) × Int) (y : Int) (h : F_laws_heldTensor x = some y) : G_laws_heldTensor FUEL x = some y := by
  obtain ⟨⟨a0, a1, a2⟩, k⟩ := x
  simp only [F_laws_heldTensor] at h
  split at h
  · rename_i hc
    obtain ⟨hk, hb⟩ := hc
    simp only [sz_Tensor] at hb
    have c4a0 := c4_IntS a0
    have c4a1 := c4_IntS a1
    have c4a2 := c4_IntS a2
    rw [← h]
    have e0 : F_laws_heldIntS (a0, k) = some (if a0 = mk_IntS a0 (k) then k + (cnt_IntS a0 : Nat) else -1) := if_pos ⟨by omega, by omega⟩
    have e1 : F_laws_heldIntS (a1, k + (cnt_IntS a0 : Nat)) = some (if a1 = mk_IntS a1 (k + (cnt_IntS a0 : Nat)) then k + (cnt_IntS a0 : Nat) + (cnt_IntS a1 : Nat) else -1) := if_pos ⟨by omega, by omega⟩
    have e2 : F_laws_heldIntS (a2, k + (cnt_IntS a0 : Nat) + (cnt_IntS a1 : Nat)) = some (if a2 = mk_IntS a2 (k + (cnt_IntS a0 : Nat) + (cnt_IntS a1 : Nat)) then k + (cnt_IntS a0 : Nat) + (cnt_IntS a1 : Nat) + (cnt_IntS a2 : Nat) else -1) := if_pos ⟨by omega, by omega⟩
    simp only [G_laws_heldTensor]
    rw [heldK (by omega) e0]
    by_cases q0 : a0 = mk_IntS a0 (k)
    case neg => rw [if_neg q0, if_neg (fun h => q0 h.1)]
    rw [if_pos q0]
    rw [heldK (by omega) e1]
    by_cases q1 : a1 = mk_IntS a1 (k + (cnt_IntS a0 : Nat))
    case neg => rw [if_neg q1, if_neg (fun h => q1 h.2.1)]
    rw [if_pos q1]
    rw [heldK (by omega) e2]
    by_cases q2 : a2 = mk_IntS a2 (k + (cnt_IntS a0 : Nat) + (cnt_IntS a1 : Nat))
    case neg => rw [if_neg q2, if_neg (fun h => q2 h.2.2)]
    rw [if_pos q2]
    rw [if_pos ⟨q0, q1, q2⟩]
  · cases h

theorem c4_Charges (x : Int × (List (List Int))) : cnt_Charges x ≤ 4 * sz_Charges x := by
  obtain ⟨a0, a1⟩ := x
  have c4a1 := c4_IntSS a1
  simp only [cnt_Charges, sz_Charges]
  omega
theorem smk_Charges (x : Int × (List (List Int))) (k : Int) : sz_Charges (mk_Charges x k) = sz_Charges x := by
  obtain ⟨a0, a1⟩ := x
  simp only [mk_Charges, sz_Charges, smk_IntSS]
theorem cmk_Charges (x : Int × (List (List Int))) (k : Int) : cnt_Charges (mk_Charges x k) = cnt_Charges x := by
  obtain ⟨a0, a1⟩ := x
  simp only [mk_Charges, cnt_Charges, cmk_IntSS]
theorem mmk_Charges (x : Int × (List (List Int))) (k : Int) : mk_Charges (mk_Charges x k) k = mk_Charges x k := by
  obtain ⟨a0, a1⟩ := x
  simp only [mk_Charges, cmk_IntSS, mmk_IntSS]

theorem f_laws_markCharges (x : (Int × (List (List Int))) × Int) (y : Int × (List (List Int))) (h : F_laws_markCharges x = some y) : G_laws_markCharges FUEL x = some y := by
  obtain ⟨⟨a0, a1⟩, k⟩ := x
  simp only [F_laws_markCharges] at h
  split at h
  · rename_i hc
    obtain ⟨hk, hb⟩ := hc
    simp only [sz_Charges] at hb
    have c4a1 := c4_IntSS a1
    rw [← h]
    have e0 : F_laws_markIntSS (a1, k) = some (k + (cnt_IntSS a1 : Nat), mk_IntSS a1 (k)) := if_pos ⟨by omega, by omega⟩
    simp only [G_laws_markCharges, fulI_id, bnd_s, e0, samI_ok (show lenN (mk_IntSS a1 (k)) = lenN a1 from lmk_IntSS a1 (k))]
  · cases h

theorem cE4_Edge (x : Int × Int) : cntE_Edge x ≤ 4 * (1 + sz_Edge x) := by
  obtain ⟨a0, a1⟩ := x
  simp only [cntE_Edge, sz_Edge]
  omega
theorem smkE_Edge (x : Int × Int) (k : Int) : sz_Edge (mkE_Edge x k) = sz_Edge x := by
  obtain ⟨a0, a1⟩ := x
  simp only [mkE_Edge, sz_Edge]
theorem cmkE_Edge (x : Int × Int) (k : Int) : cntE_Edge (mkE_Edge x k) = cntE_Edge x := by
  obtain ⟨a0, a1⟩ := x
  simp only [mkE_Edge, cntE_Edge]
theorem mmkE_Edge (x : Int × Int) (k : Int) : mkE_Edge (mkE_Edge x k) k = mkE_Edge x k := by
  obtain ⟨a0, a1⟩ := x
  simp only [mkE_Edge]

theorem sz_EdgeS_eq (l : List (Int × Int)) : sz_EdgeS l = l.length + (l.map sz_Edge).sum := by
  have : ∀ l : List (Int × Int), (l.map sz_Edge).sum = 0 := by
    intro l
    induction l with
    | nil => rfl
    | cons a l ih => simp [sz_Edge, ih]
  rw [this]; rfl
theorem c4_EdgeS (l : List (Int × Int)) : cnt_EdgeS l ≤ 4 * sz_EdgeS l := by
  rw [sz_EdgeS_eq]; exact cntL_le cntE_Edge sz_Edge cE4_Edge l
theorem smk_EdgeS (l : List (Int × Int)) (k : Int) : sz_EdgeS (mk_EdgeS l k) = sz_EdgeS l := by
  rw [sz_EdgeS_eq, sz_EdgeS_eq, mk_EdgeS, mkL_length, sum_map_mkL cntE_Edge mkE_Edge sz_Edge smkE_Edge]
theorem cmk_EdgeS (l : List (Int × Int)) (k : Int) : cnt_EdgeS (mk_EdgeS l k) = cnt_EdgeS l := sum_map_mkL cntE_Edge mkE_Edge cntE_Edge cmkE_Edge l k
theorem mmk_EdgeS (l : List (Int × Int)) (k : Int) : mk_EdgeS (mk_EdgeS l k) k = mk_EdgeS l k := mkL_mkL cntE_Edge mkE_Edge cmkE_Edge mmkE_Edge l k
theorem lmk_EdgeS (l : List (Int × Int)) (k : Int) : (mk_EdgeS l k).length = l.length := mkL_length _ _ _ _

theorem f_laws_markEdgeS (x : (List (Int × Int)) × Int) (y : Int × (List (Int × Int))) (h : F_laws_markEdgeS x = some y) : G_laws_markEdgeS FUEL x = some y := by
  obtain ⟨l, k⟩ := x
  simp only [F_laws_markEdgeS] at h
  split at h
  · rename_i hc
    obtain ⟨hk, hb⟩ := hc
    rw [sz_EdgeS_eq] at hb
    rw [← h]
    simp only [G_laws_markEdgeS, fulI_id, bnd_s]
    rw [mark_loop l cntE_Edge sz_Edge mkE_Edge k (r := Sum.inl (k + (cnt_EdgeS l : Nat), mk_EdgeS l k)) cE4_Edge hk hb ?_ ?_]
    · rw [joinK_l]
      simp only
      rw [samI_ok (show lenN (mk_EdgeS l k) = lenN l from lmk_EdgeS l k), bnd_s]
    · rintro i ⟨a0, a1⟩ ys k' he hy hi h0 hM
      have hgi : getN ys i = some (a0, a1) := hi
      simp only
      rw [cnd_t (ltI_in hi), next_i hi (by omega)]
      simp only [chkI_len hi, bnd_s, addN_0, hgi, lenN_setL, fulI_id]
      simp only [sz_Edge] at hM
      have E0 : addI .i64 (k') 1 = k' + 1 := addI_eq (by omega) (by omega)
      have E1 : addI .i64 (k' + 1) 1 = k' + 1 + 1 := addI_eq (by omega) (by omega)
      simp only [E0, E1, bnd_s, getN_set hi, setL_setL, lenN_setL, fulI_id]
      refine congrArg some (congrArg Sum.inl (Prod.ext (Prod.ext ?_ rfl) rfl))
      simp only [cntE_Edge]
      omega
    · simp only
      rw [cnd_f (ltI_f (by have := lmk_EdgeS l k; have h2 := nl (mk_EdgeS l k); unfold mk_EdgeS at this h2; omega))]
      rfl
  · cases h

theorem f_laws_heldEdgeS (x : (List (Int × Int)) × Int) (y : Int) (h : F_laws_heldEdgeS x = some y) : G_laws_heldEdgeS FUEL x = some y := by
  obtain ⟨l, k⟩ := x
  simp only [F_laws_heldEdgeS] at h
  split at h
  · rename_i hc
    obtain ⟨hk, hb⟩ := hc
    rw [sz_EdgeS_eq] at hb
    rw [← h]
    simp only [G_laws_heldEdgeS]
    rw [held_loop l cntE_Edge sz_Edge mkE_Edge k cE4_Edge hk hb ?_ ?_]
    · unfold mk_EdgeS cnt_EdgeS
      by_cases hq : l = mkL cntE_Edge mkE_Edge l k
      · rw [if_pos hq, if_pos hq, joinK_l]
      · rw [if_neg hq, if_neg hq, joinK_r]
    · rintro i ⟨a0, a1⟩ k' he h0 hM
      simp only
      simp only [sz_Edge] at hM
      rw [cnd_t (ltI_in he), next_i he (by omega)]
      have E0 : addI .i64 (k') 1 = k' + 1 := addI_eq (by omega) (by omega)
      have E1 : addI .i64 (k' + 1) 1 = k' + 1 + 1 := addI_eq (by omega) (by omega)
      simp only [getI_nat, he, bnd_s, E0, E1]
      by_cases q0 : a0 = k'
      case neg => rw [cnd_t (neI_t q0), if_neg (fun h => q0 (show a0 = k' ∧ a1 = k' + 1 from by simpa only [mkE_Edge, Prod.mk.injEq] using h).1)]
      rw [cnd_f (neI_f q0)]
      by_cases q1 : a1 = k' + 1
      case neg => rw [cnd_t (neI_t q1), if_neg (fun h => q1 (show a0 = k' ∧ a1 = k' + 1 from by simpa only [mkE_Edge, Prod.mk.injEq] using h).2)]
      rw [cnd_f (neI_f q1)]
      rw [if_pos (show (a0, a1) = mkE_Edge (a0, a1) k' from by simp only [mkE_Edge, Prod.mk.injEq]; exact ⟨q0, q1⟩)]
      refine congrArg some (congrArg Sum.inl (Prod.ext rfl (Prod.ext ?_ rfl)))
      simp only [cntE_Edge]
      omega
    · intro k'
      simp only
      rw [cnd_f (ltI_end l)]
  · cases h

theorem c4_Graph (x : Int × (List (Int × Int))) : cnt_Graph x ≤ 4 * sz_Graph x := by
  obtain ⟨a0, a1⟩ := x
  have c4a1 := c4_EdgeS a1
  simp only [cnt_Graph, sz_Graph]
  omega
theorem smk_Graph (x : Int × (List (Int × Int))) (k : Int) : sz_Graph (mk_Graph x k) = sz_Graph x := by
  obtain ⟨a0, a1⟩ := x
  simp only [mk_Graph, sz_Graph, smk_EdgeS]
theorem cmk_Graph (x : Int × (List (Int × Int))) (k : Int) : cnt_Graph (mk_Graph x k) = cnt_Graph x := by
  obtain ⟨a0, a1⟩ := x
  simp only [mk_Graph, cnt_Graph, cmk_EdgeS]
theorem mmk_Graph (x : Int × (List (Int × Int))) (k : Int) : mk_Graph (mk_Graph x k) k = mk_Graph x k := by
  obtain ⟨a0, a1⟩ := x
  simp only [mk_Graph, cmk_EdgeS, mmk_EdgeS]

theorem f_laws_markGraph (x : (Int × (List (Int × Int))) × Int) (y : Int × (List (Int × Int))) (h : F_laws_markGraph x = some y) : G_laws_markGraph FUEL x = some y := by
  obtain ⟨⟨a0, a1⟩, k⟩ := x
  simp only [F_laws_markGraph] at h
  split at h
  · rename_i hc
    obtain ⟨hk, hb⟩ := hc
    simp only [sz_Graph] at hb
    have c4a1 := c4_EdgeS a1
    rw [← h]
    have e0 : F_laws_markEdgeS (a1, k) = some (k + (cnt_EdgeS a1 : Nat), mk_EdgeS a1 (k)) := if_pos ⟨by omega, by omega⟩
    simp only [G_laws_markGraph, fulI_id, bnd_s, e0, samI_ok (show lenN (mk_EdgeS a1 (k)) = lenN a1 from lmk_EdgeS a1 (k))]
  · cases h

theorem f_laws_heldGraph (x : (Int × (List (Int × Int))) × Int) (y : Int) (h : F_laws_heldGraph x = some y) : G_laws_heldGraph FUEL x = some y := by
  obtain ⟨⟨a0, a1⟩, k⟩ := x
  simp only [F_laws_heldGraph] at h
  split at h
  · rename_i hc
    obtain ⟨hk, hb⟩ := hc
    simp only [sz_Graph] at hb
    have c4a1 := c4_EdgeS a1
    rw [← h]
    have e0 : F_laws_heldEdgeS (a1, k) = some (if a1 = mk_EdgeS a1 (k) then k + (cnt_EdgeS a1 : Nat) else -1) := if_pos ⟨by omega, by omega⟩
    simp only [G_laws_heldGraph]
    rw [heldK (by omega) e0]
    by_cases q0 : a1 = mk_EdgeS a1 (k)
    case neg => rw [if_neg q0, if_neg (fun h => q0 h)]
    rw [if_pos q0]
    rw [if_pos q0]
  · cases h

theorem hd_IntS (x : List Int) (k : Int) (h : 0 ≤ k ∧ k + 4 * (sz_IntS x : Nat) ≤ 1099511627776) : F_laws_heldIntS (mk_IntS x k, k) = some (k + (cnt_IntS x : Nat)) := by
  have := show F_laws_heldIntS (mk_IntS x k, k) = if 0 ≤ k ∧ k + 4 * (sz_IntS (mk_IntS x k) : Nat) ≤ 1099511627776 then some (if mk_IntS x k = mk_IntS (mk_IntS x k) k then k + (cnt_IntS (mk_IntS x k) : Nat) else -1) else none from rfl
  rw [this, smk_IntS, if_pos h, mmk_IntS, cmk_IntS, if_pos rfl]
theorem hd_IntSS (x : List (List Int)) (k : Int) (h : 0 ≤ k ∧ k + 4 * (sz_IntSS x : Nat) ≤ 1099511627776) : F_laws_heldIntSS (mk_IntSS x k, k) = some (k + (cnt_IntSS x : Nat)) := by
  have := show F_laws_heldIntSS (mk_IntSS x k, k) = if 0 ≤ k ∧ k + 4 * (sz_IntSS (mk_IntSS x k) : Nat) ≤ 1099511627776 then some (if mk_IntSS x k = mk_IntSS (mk_IntSS x k) k then k + (cnt_IntSS (mk_IntSS x k) : Nat) else -1) else none from rfl
  rw [this, smk_IntSS, if_pos h, mmk_IntSS, cmk_IntSS, if_pos rfl]
theorem hd_Matrix (x : Int × Int × (List Int)) (k : Int) (h : 0 ≤ k ∧ k + 4 * (sz_Matrix x : Nat) ≤ 1099511627776) : F_laws_heldMatrix (mk_Matrix x k, k) = some (match x with | (a0, a1, a2) => k + (cnt_IntS a2 : Nat)) := by
  obtain ⟨a0, a1, a2⟩ := x
  have := show F_laws_heldMatrix ((a0, a1, mk_IntS a2 (k)), k) = if 0 ≤ k ∧ k + 4 * (sz_Matrix (mk_Matrix (a0, a1, a2) k) : Nat) ≤ 1099511627776 then some (if mk_IntS a2 (k) = mk_IntS (mk_IntS a2 (k)) (k) then k + (cnt_IntS (mk_IntS a2 (k)) : Nat) else -1) else none from rfl
  refine this.trans ?_
  rw [smk_Matrix, if_pos h]
  simp only [mmk_IntS, cmk_IntS, and_self, if_true]
theorem hd_MatrixS (x : List (Int × Int × (List Int))) (k : Int) (h : 0 ≤ k ∧ k + 4 * (sz_MatrixS x : Nat) ≤ 1099511627776) : F_laws_heldMatrixS (mk_MatrixS x k, k) = some (k + (cnt_MatrixS x : Nat)) := by
  have := show F_laws_heldMatrixS (mk_MatrixS x k, k) = if 0 ≤ k ∧ k + 4 * (sz_MatrixS (mk_MatrixS x k) : Nat) ≤ 1099511627776 then some (if mk_MatrixS x k = mk_MatrixS (mk_MatrixS x k) k then k + (cnt_MatrixS (mk_MatrixS x k) : Nat) else -1) else none from rfl
  rw [this, smk_MatrixS, if_pos h, mmk_MatrixS, cmk_MatrixS, if_pos rfl]
theorem hd_Automaton (x : Int × Int × (List Int) × (List (Int × Int × (List Int))) × (List Int)) (k : Int) (h : 0 ≤ k ∧ k + 4 * (sz_Automaton x : Nat) ≤ 1099511627776) : F_laws_heldAutomaton (mk_Automaton x k, k) = some (match x with | (a0, a1, a2, a3, a4) => k + (cnt_IntS a2 : Nat) + (cnt_MatrixS a3 : Nat) + (cnt_IntS a4 : Nat)) := by
  obtain ⟨a0, a1, a2, a3, a4⟩ := x
  have := show F_laws_heldAutomaton ((a0, a1, mk_IntS a2 (k), mk_MatrixS a3 (k + (cnt_IntS a2 : Nat)), mk_IntS a4 (k + (cnt_IntS a2 : Nat) + (cnt_MatrixS a3 : Nat))), k) = if 0 ≤ k ∧ k + 4 * (sz_Automaton (mk_Automaton (a0, a1, a2, a3, a4) k) : Nat) ≤ 1099511627776 then some (if mk_IntS a2 (k) = mk_IntS (mk_IntS a2 (k)) (k) ∧ mk_MatrixS a3 (k + (cnt_IntS a2 : Nat)) = mk_MatrixS (mk_MatrixS a3 (k + (cnt_IntS a2 : Nat))) (k + (cnt_IntS (mk_IntS a2 (k)) : Nat)) ∧ mk_IntS a4 (k + (cnt_IntS a2 : Nat) + (cnt_MatrixS a3 : Nat)) = mk_IntS (mk_IntS a4 (k + (cnt_IntS a2 : Nat) + (cnt_MatrixS a3 : Nat))) (k + (cnt_IntS (mk_IntS a2 (k)) : Nat) + (cnt_MatrixS (mk_MatrixS a3 (k + (cnt_IntS a2 : Nat))) : Nat)) then k + (cnt_IntS (mk_IntS a2 (k)) : Nat) + (cnt_MatrixS (mk_MatrixS a3 (k + (cnt_IntS a2 : Nat))) : Nat) + (cnt_IntS (mk_IntS a4 (k + (cnt_IntS a2 : Nat) + (cnt_MatrixS a3 : Nat))) : Nat) else -1) else none from rfl
  refine this.trans ?_
  rw [smk_Automaton, if_pos h]
  simp only [mmk_IntS, cmk_IntS, mmk_MatrixS, cmk_MatrixS, and_self, if_true]
theorem hd_SiteS (x : List (Int × Int × Int × (List Int))) (k : Int) (h : 0 ≤ k ∧ k + 4 * (sz_SiteS x : Nat) ≤ 1099511627776) : F_laws_heldSiteS (mk_SiteS x k, k) = some (k + (cnt_SiteS x : Nat)) := by
  have := show F_laws_heldSiteS (mk_SiteS x k, k) = if 0 ≤ k ∧ k + 4 * (sz_SiteS (mk_SiteS x k) : Nat) ≤ 1099511627776 then some (if mk_SiteS x k = mk_SiteS (mk_SiteS x k) k then k + (cnt_SiteS (mk_SiteS x k) : Nat) else -1) else none from rfl
  rw [this, smk_SiteS, if_pos h, mmk_SiteS, cmk_SiteS, if_pos rfl]
theorem hd_Chain (x : Int × (List (Int × Int × Int × (List Int)))) (k : Int) (h : 0 ≤ k ∧ k + 4 * (sz_Chain x : Nat) ≤ 1099511627776) : F_laws_heldChain (mk_Chain x k, k) = some (match x with | (a0, a1) => k + (cnt_SiteS a1 : Nat)) := by
  obtain ⟨a0, a1⟩ := x
  have := show F_laws_heldChain ((a0, mk_SiteS a1 (k)), k) = if 0 ≤ k ∧ k + 4 * (sz_Chain (mk_Chain (a0, a1) k) : Nat) ≤ 1099511627776 then some (if mk_SiteS a1 (k) = mk_SiteS (mk_SiteS a1 (k)) (k) then k + (cnt_SiteS (mk_SiteS a1 (k)) : Nat) else -1) else none from rfl
  refine this.trans ?_
  rw [smk_Chain, if_pos h]
  simp only [mmk_SiteS, cmk_SiteS, and_self, if_true]
theorem hd_Tensor (x : (List Int) × (List Int) × (List Int)) (k : Int) (h : 0 ≤ k ∧ k + 4 * (sz_Tensor x : Nat) ≤ 1099511627776) : F_laws_heldTensor (mk_Tensor x k, k) = some (match x with | (a0, a1, a2) => k + (cnt_IntS a0 : Nat) + (cnt_IntS a1 : Nat) + (cnt_IntS a2 : Nat)) := by
  obtain ⟨a0, a1, a2⟩ := x
  have := show F_laws_heldTensor ((mk_IntS a0 (k), mk_IntS a1 (k + (cnt_IntS a0 : Nat)), mk_IntS a2 (k + (cnt_IntS a0 : Nat) + (cnt_IntS a1 : Nat))), k) = if 0 ≤ k ∧ k + 4 * (sz_Tensor (mk_Tensor (a0, a1, a2) k) : Nat) ≤ 1099511627776 then some (if mk_IntS a0 (k) = mk_IntS (mk_IntS a0 (k)) (k) ∧ mk_IntS a1 (k + (cnt_IntS a0 : Nat)) = mk_IntS (mk_IntS a1 (k + (cnt_IntS a0 : Nat))) (k + (cnt_IntS (mk_IntS a0 (k)) : Nat)) ∧ mk_IntS a2 (k + (cnt_IntS a0 : Nat) + (cnt_IntS a1 : Nat)) = mk_IntS (mk_IntS a2 (k + (cnt_IntS a0 : Nat) + (cnt_IntS a1 : Nat))) (k + (cnt_IntS (mk_IntS a0 (k)) : Nat) + (cnt_IntS (mk_IntS a1 (k + (cnt_IntS a0 : Nat))) : Nat)) then k + (cnt_IntS (mk_IntS a0 (k)) : Nat) + (cnt_IntS (mk_IntS a1 (k + (cnt_IntS a0 : Nat))) : Nat) + (cnt_IntS (mk_IntS a2 (k + (cnt_IntS a0 : Nat) + (cnt_IntS a1 : Nat))) : Nat) else -1) else none from rfl
  refine this.trans ?_
  rw [smk_Tensor, if_pos h]
  simp only [mmk_IntS, cmk_IntS, and_self, if_true]
theorem hd_EdgeS (x : List (Int × Int)) (k : Int) (h : 0 ≤ k ∧ k + 4 * (sz_EdgeS x : Nat) ≤ 1099511627776) : F_laws_heldEdgeS (mk_EdgeS x k, k) = some (k + (cnt_EdgeS x : Nat)) := by
  have := show F_laws_heldEdgeS (mk_EdgeS x k, k) = if 0 ≤ k ∧ k + 4 * (sz_EdgeS (mk_EdgeS x k) : Nat) ≤ 1099511627776 then some (if mk_EdgeS x k = mk_EdgeS (mk_EdgeS x k) k then k + (cnt_EdgeS (mk_EdgeS x k) : Nat) else -1) else none from rfl
  rw [this, smk_EdgeS, if_pos h, mmk_EdgeS, cmk_EdgeS, if_pos rfl]
theorem hd_Graph (x : Int × (List (Int × Int))) (k : Int) (h : 0 ≤ k ∧ k + 4 * (sz_Graph x : Nat) ≤ 1099511627776) : F_laws_heldGraph (mk_Graph x k, k) = some (match x with | (a0, a1) => k + (cnt_EdgeS a1 : Nat)) := by
  obtain ⟨a0, a1⟩ := x
  have := show F_laws_heldGraph ((a0, mk_EdgeS a1 (k)), k) = if 0 ≤ k ∧ k + 4 * (sz_Graph (mk_Graph (a0, a1) k) : Nat) ≤ 1099511627776 then some (if mk_EdgeS a1 (k) = mk_EdgeS (mk_EdgeS a1 (k)) (k) then k + (cnt_EdgeS (mk_EdgeS a1 (k)) : Nat) else -1) else none from rfl
  refine this.trans ?_
  rw [smk_Graph, if_pos h]
  simp only [mmk_EdgeS, cmk_EdgeS, and_self, if_true]
end Go.Am
