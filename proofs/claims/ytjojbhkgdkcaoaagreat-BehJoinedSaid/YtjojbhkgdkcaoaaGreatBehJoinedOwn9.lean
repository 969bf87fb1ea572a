/- A part of the proof: texts of this session, joined. -/
import Derived.Test.YtjojbhkgdkcaoaaGreatBehJoinedOwn8
import Derived.Test.YtjojbhkgdkcaoaaGreatShort
set_option linter.unusedSimpArgs false
set_option linter.unusedVariables false
namespace Go.Bh
mutual
def cmpT : Tm → Tm → Int
 | .mk k n l,.mk k' n' l' => if orI [cmpI k k',cmpI n n',cmpI l.length l'.length] = 0 then cmpTs l l' else orI [cmpI k k',cmpI n n',cmpI l.length l'.length]
def cmpTs : List Tm → List Tm → Int
 | [],[] => 0
 | [],_ :: _ => -1
 | _ :: _,[] => 1
 | x :: a,y :: b => if cmpT x y = 0 then cmpTs a b else cmpT x y
end
end Go.Bh
namespace Go.Proofs.YtjojbhkgdkcaoaaGreat
open Go Go.RowKit Go.Bh Go.Shelf Go.Proofs.YtjojbhkgdkcaoaaGreatW.PrintLast
end Go.Proofs.YtjojbhkgdkcaoaaGreat
namespace Go.Bh
def cmpO (x y : Off) : Int := if x.inn = y.inn then orI [cmpI x.s y.s,cmpT x.t y.t] else if y.inn = true then -1 else 1
def cmpP (x y : Pr) : Int := orI [cmpT x.a y.a,cmpT x.b y.b]
end Go.Bh
namespace Go.Proofs.YtjojbhkgdkcaoaaGreat
open Go Go.RowKit Go.Bh Go.Shelf Go.Proofs.YtjojbhkgdkcaoaaGreatW.PrintLast
end Go.Proofs.YtjojbhkgdkcaoaaGreat
namespace Go.Bh
mutual
def cmpB : Be → Be → Int
 | .mk k n g lo hi gs os cs ss ts bs,.mk k' n' g' lo' hi' gs' os' cs' ss' ts' bs' => if lexC cmpI [k,n,g,lo,hi] [k',n',g',lo',hi'] = 0 then (if orI [lexC cmpI gs gs',lexC cmpO os os',lexC cmpP cs cs',lexC cmpI ss ss',lexC cmpT ts ts'] = 0 then cmpBs bs bs' else orI [lexC cmpI gs gs',lexC cmpO os os',lexC cmpP cs cs',lexC cmpI ss ss',lexC cmpT ts ts']) else lexC cmpI [k,n,g,lo,hi] [k',n',g',lo',hi']
def cmpBs : List Be → List Be → Int
 | [],[] => 0
 | [],_ :: _ => -1
 | _ :: _,[] => 1
 | x :: a,y :: b => if cmpB x y = 0 then cmpBs a b else cmpB x y
end
end Go.Bh
namespace Go.Proofs.YtjojbhkgdkcaoaaGreat
open Go Go.RowKit Go.Bh Go.Shelf Go.Proofs.YtjojbhkgdkcaoaaGreatW.PrintLast
end Go.Proofs.YtjojbhkgdkcaoaaGreat
namespace Go.Bh
def BR (b : Be) : Prop := ∀ x ∈ [b.kind,b.n,b.gate,b.lo,b.hi],InR x
end Go.Bh
namespace Go.Proofs.YtjojbhkgdkcaoaaGreat
open Go Go.RowKit Go.Bh Go.Shelf Go.Proofs.YtjojbhkgdkcaoaaGreatW.PrintLast
end Go.Proofs.YtjojbhkgdkcaoaaGreat
