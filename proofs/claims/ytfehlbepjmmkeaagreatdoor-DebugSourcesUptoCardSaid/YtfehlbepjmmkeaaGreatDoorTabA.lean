/-
  DERIVED. Prepared functions of the program that the run of the example enters, as the reckoning of their text gives them. No condition.
-/
import Derived.Test.YtfehlbepjmmkeaaGreatDoorXk
import Derived.Test.YtfehlbepjmmkeaaGreatDoorProg
namespace Go.Proofs.YtfehlbepjmmkeaaGreatDoor
set_option maxRecDepth 1000000
set_option maxHeartbeats 8000000
namespace Ex
noncomputable section
def iI (n:Int):AV:= .int .i64 n
def trie {α:Type}:List (Nat×α)→T α
 | []=> .E
 |(k,v)::l=>T.set (some v) FUEL (trie l) k
def lst (l:List AV):T AV:=putCells l 0 .E
def agq:List Nat→PC→PC
 | [],c=>c
 |i::l,c=>match c with
  | .seq a b=>agq l (match i with|0=>a|_=>b)
  | .cond _ a b=>agq l (match i with|0=>a|_=>b)
  | .aNn _ _ a b=>agq l (match i with|0=>a|_=>b)
  | .block _ b=>agq l b
  | .loop b=>agq l b
  |c=>c
def anc (p:List Nat)(n:Nat)(c:PC):List PO:=match agq p c with
 | .region l=>l.drop n
 |_=>[]
abbrev PS (fn:Func):Type:={x:PF // axM Tryz.prog fn=x}
def bJF:PS Tryz.f6:=by
 refine⟨?x,?h⟩
 case h=>cbv;rfl
def pf6:PF:=bJF.1
def bBf:PS Tryz.f12:=by
 refine⟨?x,?h⟩
 case h=>cbv;rfl
def aww:PF:=bBf.1
def bBl:PS Tryz.f14:=by
 refine⟨?x,?h⟩
 case h=>cbv;rfl
def aNl:PF:=bBl.1
def bBr:PS Tryz.f16:=by
 refine⟨?x,?h⟩
 case h=>cbv;rfl
def bzA:PF:=bBr.1
def bBz:PS Tryz.f17:=by
 refine⟨?x,?h⟩
 case h=>cbv;rfl
def aRm:PF:=bBz.1
def bBA:PS Tryz.f19:=by
 refine⟨?x,?h⟩
 case h=>cbv;rfl
def bzC:PF:=bBA.1
def bBB:PS Tryz.f20:=by
 refine⟨?x,?h⟩
 case h=>cbv;rfl
def bzG:PF:=bBB.1
def bBF:PS Tryz.f21:=by
 refine⟨?x,?h⟩
 case h=>cbv;rfl
def bzL:PF:=bBF.1
def bBK:PS Tryz.f27:=by
 refine⟨?x,?h⟩
 case h=>cbv;rfl
def a6g:PF:=bBK.1
def bBL:PS Tryz.f32:=by
 refine⟨?x,?h⟩
 case h=>cbv;rfl
def bzM:PF:=bBL.1
def bBS:PS Tryz.f33:=by
 refine⟨?x,?h⟩
 case h=>cbv;rfl
def aVR:PF:=bBS.1
def bBX:PS Tryz.f34:=by
 refine⟨?x,?h⟩
 case h=>cbv;rfl
def bzQ:PF:=bBX.1
def bBY:PS Tryz.f35:=by
 refine⟨?x,?h⟩
 case h=>cbv;rfl
def bzU:PF:=bBY.1
def bB9:PS Tryz.f36:=by
 refine⟨?x,?h⟩
 case h=>cbv;rfl
def bzV:PF:=bB9.1
def bCe:PS Tryz.f37:=by
 refine⟨?x,?h⟩
 case h=>cbv;rfl
def bzX:PF:=bCe.1
def bCf:PS Tryz.f38:=by
 refine⟨?x,?h⟩
 case h=>cbv;rfl
def bzY:PF:=bCf.1
def bCg:PS Tryz.f40:=by
 refine⟨?x,?h⟩
 case h=>cbv;rfl
def bzZ:PF:=bCg.1
def bCk:PS Tryz.f41:=by
 refine⟨?x,?h⟩
 case h=>cbv;rfl
def bz4:PF:=bCk.1
def bCn:PS Tryz.f42:=by
 refine⟨?x,?h⟩
 case h=>cbv;rfl
def aRn:PF:=bCn.1
def bCo:PS Tryz.f43:=by
 refine⟨?x,?h⟩
 case h=>cbv;rfl
def bz7:PF:=bCo.1
def bCq:PS Tryz.f44:=by
 refine⟨?x,?h⟩
 case h=>cbv;rfl
def bAe:PF:=bCq.1
def bCt:PS Tryz.f45:=by
 refine⟨?x,?h⟩
 case h=>cbv;rfl
def aVU:PF:=bCt.1
def bCz:PS Tryz.f46:=by
 refine⟨?x,?h⟩
 case h=>cbv;rfl
def bAg:PF:=bCz.1
def bCD:PS Tryz.f54:=by
 refine⟨?x,?h⟩
 case h=>cbv;rfl
def bcE:PF:=bCD.1
def bCG:PS Tryz.f55:=by
 refine⟨?x,?h⟩
 case h=>cbv;rfl
def bcF:PF:=bCG.1
def bCI:PS Tryz.f56:=by
 refine⟨?x,?h⟩
 case h=>cbv;rfl
def boc:PF:=bCI.1
def bCJ:PS Tryz.f57:=by
 refine⟨?x,?h⟩
 case h=>cbv;rfl
def a04:PF:=bCJ.1
def bCM:PS Tryz.f58:=by
 refine⟨?x,?h⟩
 case h=>cbv;rfl
def bAi:PF:=bCM.1
def bCN:PS Tryz.f59:=by
 refine⟨?x,?h⟩
 case h=>cbv;rfl
def bAl:PF:=bCN.1
def bCO:PS Tryz.f60:=by
 refine⟨?x,?h⟩
 case h=>cbv;rfl
def bAo:PF:=bCO.1
def bCQ:PS Tryz.f61:=by
 refine⟨?x,?h⟩
 case h=>cbv;rfl
def bAt:PF:=bCQ.1
def bCS:PS Tryz.f62:=by
 refine⟨?x,?h⟩
 case h=>cbv;rfl
def bAv:PF:=bCS.1
def bCU:PS Tryz.f63:=by
 refine⟨?x,?h⟩
 case h=>cbv;rfl
def bAw:PF:=bCU.1
def bCW:PS Tryz.f74:=by
 refine⟨?x,?h⟩
 case h=>cbv;rfl
def bAy:PF:=bCW.1
def bC2:PS Tryz.f77:=by
 refine⟨?x,?h⟩
 case h=>cbv;rfl
def bcI:PF:=bC2.1
def bC6:PS Tryz.f80:=by
 refine⟨?x,?h⟩
 case h=>cbv;rfl
def bAA:PF:=bC6.1
def bC8:PS Tryz.f81:=by
 refine⟨?x,?h⟩
 case h=>cbv;rfl
def bAB:PF:=bC8.1
def bC9:PS Tryz.f82:=by
 refine⟨?x,?h⟩
 case h=>cbv;rfl
def bAD:PF:=bC9.1
def bDc:PS Tryz.f83:=by
 refine⟨?x,?h⟩
 case h=>cbv;rfl
def bAF:PF:=bDc.1
def bDg:PS Tryz.f84:=by
 refine⟨?x,?h⟩
 case h=>cbv;rfl
def bAI:PF:=bDg.1
def bDi:PS Tryz.f85:=by
 refine⟨?x,?h⟩
 case h=>cbv;rfl
def bAM:PF:=bDi.1
def bDl:PS Tryz.f86:=by
 refine⟨?x,?h⟩
 case h=>cbv;rfl
def bAN:PF:=bDl.1
def bDo:PS Tryz.f87:=by
 refine⟨?x,?h⟩
 case h=>cbv;rfl
def bAS:PF:=bDo.1
def bDs:PS Tryz.f88:=by
 refine⟨?x,?h⟩
 case h=>cbv;rfl
def bAU:PF:=bDs.1
def bDt:PS Tryz.f89:=by
 refine⟨?x,?h⟩
 case h=>cbv;rfl
def bA0:PF:=bDt.1
def bDy:PS Tryz.f90:=by
 refine⟨?x,?h⟩
 case h=>cbv;rfl
def bA3:PF:=bDy.1
def bDC:PS Tryz.f91:=by
 refine⟨?x,?h⟩
 case h=>cbv;rfl
def bA7:PF:=bDC.1
def bDD:PS Tryz.f92:=by
 refine⟨?x,?h⟩
 case h=>cbv;rfl
def bA8:PF:=bDD.1
def bDF:PS Tryz.f93:=by
 refine⟨?x,?h⟩
 case h=>cbv;rfl
def bA9:PF:=bDF.1
def bDG:PS Tryz.f94:=by
 refine⟨?x,?h⟩
 case h=>cbv;rfl
def bBa:PF:=bDG.1
def bDH:PS Tryz.f95:=by
 refine⟨?x,?h⟩
 case h=>cbv;rfl
def bBc:PF:=bDH.1
def bDI:PS Tryz.f96:=by
 refine⟨?x,?h⟩
 case h=>cbv;rfl
def bBe:PF:=bDI.1
def bDM:PS Tryz.f99:=by
 refine⟨?x,?h⟩
 case h=>cbv;rfl
def aRl:PF:=bDM.1
def bod:PS Tryz.f100:=by
 refine⟨?x,?h⟩
 case h=>cbv;rfl
def beW:PF:=bod.1
def boh:PS Tryz.f101:=by
 refine⟨?x,?h⟩
 case h=>cbv;rfl
def beY:PF:=boh.1
def bom:PS Tryz.f102:=by
 refine⟨?x,?h⟩
 case h=>cbv;rfl
def be1:PF:=bom.1
def boE:PS Tryz.f103:=by
 refine⟨?x,?h⟩
 case h=>cbv;rfl
def be3:PF:=boE.1
def boF:PS Tryz.f104:=by
 refine⟨?x,?h⟩
 case h=>cbv;rfl
def be6:PF:=boF.1
def boG:PS Tryz.f105:=by
 refine⟨?x,?h⟩
 case h=>cbv;rfl
def be8:PF:=boG.1
def boH:PS Tryz.f106:=by
 refine⟨?x,?h⟩
 case h=>cbv;rfl
def be9:PF:=boH.1
def boM:PS Tryz.f107:=by
 refine⟨?x,?h⟩
 case h=>cbv;rfl
def bfg:PF:=boM.1
def boO:PS Tryz.f108:=by
 refine⟨?x,?h⟩
 case h=>cbv;rfl
def bfh:PF:=boO.1
def boT:PS Tryz.f109:=by
 refine⟨?x,?h⟩
 case h=>cbv;rfl
def as1:PF:=boT.1
def boU:PS Tryz.f111:=by
 refine⟨?x,?h⟩
 case h=>cbv;rfl
def bfp:PF:=boU.1
def boV:PS Tryz.f112:=by
 refine⟨?x,?h⟩
 case h=>cbv;rfl
def bfy:PF:=boV.1
def boY:PS Tryz.f113:=by
 refine⟨?x,?h⟩
 case h=>cbv;rfl
def bfC:PF:=boY.1
def bo1:PS Tryz.f114:=by
 refine⟨?x,?h⟩
 case h=>cbv;rfl
def bfD:PF:=bo1.1
def bo2:PS Tryz.f115:=by
 refine⟨?x,?h⟩
 case h=>cbv;rfl
def bfE:PF:=bo2.1
def bo3:PS Tryz.f116:=by
 refine⟨?x,?h⟩
 case h=>cbv;rfl
def bfI:PF:=bo3.1
def bo7:PS Tryz.f118:=by
 refine⟨?x,?h⟩
 case h=>cbv;rfl
def bfK:PF:=bo7.1
def bpb:PS Tryz.f119:=by
 refine⟨?x,?h⟩
 case h=>cbv;rfl
def bfN:PF:=bpb.1
def bpe:PS Tryz.f120:=by
 refine⟨?x,?h⟩
 case h=>cbv;rfl
def bfP:PF:=bpe.1
def bpj:PS Tryz.f121:=by
 refine⟨?x,?h⟩
 case h=>cbv;rfl
def bfY:PF:=bpj.1
def bpm:PS Tryz.f124:=by
 refine⟨?x,?h⟩
 case h=>cbv;rfl
def aXQ:PF:=bpm.1
def bpr:PS Tryz.f125:=by
 refine⟨?x,?h⟩
 case h=>cbv;rfl
def bf1:PF:=bpr.1
def bps:PS Tryz.f133:=by
 refine⟨?x,?h⟩
 case h=>cbv;rfl
def bf3:PF:=bps.1
def bpv:PS Tryz.f134:=by
 refine⟨?x,?h⟩
 case h=>cbv;rfl
def bf5:PF:=bpv.1
def bpw:PS Tryz.f139:=by
 refine⟨?x,?h⟩
 case h=>cbv;rfl
def bf8:PF:=bpw.1
def bpy:PS Tryz.f140:=by
 refine⟨?x,?h⟩
 case h=>cbv;rfl
def bgb:PF:=bpy.1
end
end Ex
end Go.Proofs.YtfehlbepjmmkeaaGreatDoor
