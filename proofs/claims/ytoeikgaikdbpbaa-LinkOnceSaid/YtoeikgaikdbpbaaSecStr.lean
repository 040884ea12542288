/- Bytes to a string. No condition. -/
import Derived.Test.YtoeikgaikdbpbaaSec
import Derived.Laws.BytesString
import Derived.Laws.Cells
namespace Go.Proofs.Ytoeikgaikdbpbaa
open Go.RowKit

def strOf (l : List Int) : ByteArray := l.foldl (fun r n => r.push (UInt8.ofNat n.toNat)) ByteArray.empty
theorem conv_c {w : World} {D : Nat → Prop} {a : Option Addr} {l : List Int} (h : ByR w D a l) (c : Nat) : (convert 22 9 (.slice a l.length c)).run Try.prog w = .ok (.string (strOf l)) w := by
  rw [run_convert_bytes_string w 22 9 5 a l.length c Try.underlying22 Try.underlying5 Try.underlying9]
  cases a with
  | none =>
    have := h.nil
    subst this
    simp [Conv.bytesToString, strOf]
  | some ad =>
    refine run_bytesToString w ad l.length c l ?_
    have := run_loadCells_list (P := Try.prog) (w := w) ad (bcells l) h.news
    simpa [bcells] using this
end Go.Proofs.Ytoeikgaikdbpbaa
