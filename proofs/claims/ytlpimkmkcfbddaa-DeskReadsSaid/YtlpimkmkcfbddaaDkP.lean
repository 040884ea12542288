/- The desk, plainly: a want is granted. No condition. -/
import Derived.Test.YtlpimkmkcfbddaaDkF
namespace Go.Proofs.Ytlpimkmkcfbddaa
open Go.RowKit

/-- The masks of a grant: copies and what is owned. -/
def grM (s : Dp) (x : Wt) : BitVec 4 × BitVec 4 :=
  if x.w && lonB s x then (15#4, 15#4)
  else ((s.T.free x.c x.p &&& ~~~ resM x.c x.p s.ws) ||| (1#4 <<< x.o.toNat), if x.w then 1#4 <<< x.o.toNat else 0#4)
def grantP (s : Dp) (x : Wt) : Dp :=
  let T' := s.T.grant x.c x.p (mv (grM s x).1) (mv (grM s x).2)
  ⟨T', rmW x.c s.ws, s.l, s.al ++ [⟨x.c, 5, x.p, 0, mv (T'.copies x.c x.p), mv (T'.owns x.c x.p), false⟩]⟩
/-- Calls to all who hold what is wanted. -/
def callP (s : Dp) (x : Wt) : List Int → Dp
  | [] => s
  | h :: t => callP (if callOk h x s.l then { s with l := kput (keyOf h x) false s.l, al := s.al ++ [⟨h, 6, x.p, x.o, 0, 0, x.w⟩] } else s) x t
/-- The wants are gone through. -/
def passP (s : Dp) : List Wt → Dp × Bool
  | [] => (s, false)
  | x :: t =>
    if (aheadL x s.ws).length > 0 || outB x.c x.p s.l then passP s t
    else if (s.T.holders x.c x.p x.o x.w).length = 0 then (grantP s x, true)
    else passP (callP s x (s.T.holders x.c x.p x.o x.w)) t
def edgP (s : Dp) (x : Wt) : List (Int × Int) :=
  ((s.T.holders x.c x.p x.o x.w).filter fun h => (kget (keyOf h x) s.l).getD false).map (fun h => (x.c, h)) ++ (aheadL x s.ws).map (fun c => (x.c, c))
def edgesP (s : Dp) : List (Int × Int) := s.ws.flatMap (edgP s)
end Go.Proofs.Ytlpimkmkcfbddaa
