import Derived.Test.YtgkfgijmccojjaaDoorBase
namespace Go.Proofs.YtgkfgijmccojjaaDoor
open Go.RowKit

theorem Only.bel {s : List Nat} {a w : World} {B : Nat} (h : Only s a w) (hs : ∀ k ∈ s, B ≤ k) (_ : B ≤ a.heap.size) : Below B a w := h.below hs
theorem OnlyG.bel {s : List Nat} {a w : World} {B : Nat} (h : OnlyG s a w) (hs : ∀ k ∈ s, B ≤ k) (hB : B ≤ a.heap.size) : Below B a w := h.below hs hB
theorem Only.blo {s : List Nat} {a w : World} (h : Only s a w) {k : Nat} (_ : k < a.heap.size) (hk : k ∉ s) : w.heap[k]? = a.heap[k]? := h.block k hk
theorem OnlyG.blo {s : List Nat} {a w : World} (h : OnlyG s a w) {k : Nat} (h0 : k < a.heap.size) (hk : k ∉ s) : w.heap[k]? = a.heap[k]? := h.block k h0 hk
end Go.Proofs.YtgkfgijmccojjaaDoor
