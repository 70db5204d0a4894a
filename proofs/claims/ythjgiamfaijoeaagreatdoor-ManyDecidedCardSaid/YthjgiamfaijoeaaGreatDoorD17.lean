/- What is proved: parts of the walk and of the plain law. No condition but those each law names. -/
import Derived.Test.YthjgiamfaijoeaaGreatDoorD00
set_option linter.unusedSimpArgs false
set_option linter.unusedVariables false
set_option maxRecDepth 100000
namespace Go.Proofs.YthjgiamfaijoeaaGreatDoor
open Go.RowKit
namespace Mk
section
variable {α:Type} {P:Program} {ops:Array Oper} {md:Region.Mode} {w:World} {k:Nat} {mk:α→Value} {ob:α→World→Prop}
def Oper.growUpon (P:Program) (w1:World) (v:Value):Result Next→Prop
 | .ok (.value u) w'=>w'=w1∧u=v
 | .ok .skip w'=>w'=w1∧v=undef
 | .ok (.enter f args) w'=>w'=w1∧Calls P f args w1 (Ret v w1)
 | _=>False
def Oper.growAt (P:Program) (o:Oper) (a:Act) (w1:World) (v:Value):Prop:=Oper.growUpon P w1 v ((execOp a.eval o).run P w1)
def Oper.makesUpon (P:Program) (w1:World) (mk:α→Value) (ob:α→World→Prop):Result Next→Prop
 | .ok (.value u) w'=>∃ x,u=mk x∧(∃ g:Ext w1,w'=g.val)∧ob x w'
 | .ok (.enter f args) w'=>w'=w1∧Calls P f args w1 fun e w2=>∃ x,e=.returned (mk x)∧(∃ g:Ext w1,w2=g.val)∧ob x w2
 | _=>False
def Oper.readUpon (w1:World) (v:Value):Result Next→Prop
 | .ok (.value u) w'=>w'=w1∧u=v
 | .ok .skip w'=>w'=w1∧v=undef
 | _=>False
def Oper.readAt (P:Program) (o:Oper) (a:Act) (w1:World) (v:Value):Prop:=Oper.readUpon w1 v ((execOp a.eval o).run P w1)
attribute [go_sem] Oper.growAt Oper.growUpon Oper.readAt Oper.readUpon
end
end Mk
end Go.Proofs.YthjgiamfaijoeaaGreatDoor
