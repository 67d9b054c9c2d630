/- The interpreter's calls: by rounds, and in the limit. -/
import Derived.Test.YtiibidadpgknjaaFi
namespace Go.Proofs.Ytiibidadpgknjaa.Fi
open Go

structure Env where
  P : Program
  tab : List (List TI)
  keep : Nat → Nat → Option (List Nat)
  cutr : Nat → Nat → Option (List Nat)
  own : Nat → Nat → Bool
  wr : Nat → Bool
  mode : Nat → Option (List Nat)
  made : Nat → Bool
  eqs : List Nat

def Env.ctx (E : Env) (f : Nat) (fn : Func) (nr : Nat) : Ctx :=
  { tab := E.tab, nt := fn.ntmps, nr := nr, keep := E.keep f, cutr := E.cutr f, own := E.own f, wr := E.wr f, mode := E.mode, made := E.made, eqs := E.eqs }

def enterIt : List It → List It
  | .inLoop c :: k => .code c :: .inLoop c :: k
  | k => k

def BIG : Nat := 1000000

mutual
def runN (E : Env) : Nat → Nat → Nat → Bool → List It → List Nat → List AV → List Blk → Bool → Option Ans
  | 0, _, _, _, _, _, _, _, _ => none
  | n + 1, f, nr, iso, todo, ks, vs, h, leak =>
    match E.P.funcs[f]? with
    | none => none
    | some fn => go (E.ctx f fn nr) fn (callPN E n) (callIN E n) (runN E n f nr iso) iso BIG (enterIt todo) (look ks vs) h leak
def callPN (E : Env) : Nat → Nat → List AV → List Blk → Option (AV × List Blk)
  | 0, _, _, _ => none
  | n + 1, f, as, bs =>
    match E.P.funcs[f]? with
    | none => none
    | some fn => match fn.body with
      | none => none
      | some c => (runN E n f bs.length true [.code c] (List.range as.length) as bs false).bind fun a => some (a.1, a.2.1)
def callIN (E : Env) : Nat → Nat → List AV → List Blk → Option Ans
  | 0, _, _, _ => none
  | n + 1, f, as, h =>
    match E.P.funcs[f]? with
    | none => none
    | some fn => match fn.body with
      | none => none
      | some c => runN E n f h.length false [.code c] (List.range as.length) as h false
end

end Go.Proofs.Ytiibidadpgknjaa.Fi
