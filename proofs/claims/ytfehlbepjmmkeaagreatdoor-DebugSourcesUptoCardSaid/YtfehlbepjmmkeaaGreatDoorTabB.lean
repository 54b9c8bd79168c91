/-
  DERIVED. More prepared functions of the program that the run of the example enters, as the reckoning of their text gives them. No condition.
-/
import Derived.Test.YtfehlbepjmmkeaaGreatDoorTabA
namespace Go.Proofs.YtfehlbepjmmkeaaGreatDoor
set_option maxRecDepth 1000000
set_option maxHeartbeats 8000000
namespace Ex
noncomputable section
def bpE:PS Tryz.f141:=by
 refine⟨?x,?h⟩
 case h=>cbv;rfl
def bgh:PF:=bpE.1
def bpG:PS Tryz.f142:=by
 refine⟨?x,?h⟩
 case h=>cbv;rfl
def bgk:PF:=bpG.1
def bpK:PS Tryz.f143:=by
 refine⟨?x,?h⟩
 case h=>cbv;rfl
def bgl:PF:=bpK.1
def bpL:PS Tryz.f144:=by
 refine⟨?x,?h⟩
 case h=>cbv;rfl
def bgq:PF:=bpL.1
def bpM:PS Tryz.f145:=by
 refine⟨?x,?h⟩
 case h=>cbv;rfl
def bgw:PF:=bpM.1
def bpP:PS Tryz.f147:=by
 refine⟨?x,?h⟩
 case h=>cbv;rfl
def bgC:PF:=bpP.1
def bpT:PS Tryz.f148:=by
 refine⟨?x,?h⟩
 case h=>cbv;rfl
def bgG:PF:=bpT.1
def bpW:PS Tryz.f149:=by
 refine⟨?x,?h⟩
 case h=>cbv;rfl
def bgI:PF:=bpW.1
def bpZ:PS Tryz.f150:=by
 refine⟨?x,?h⟩
 case h=>cbv;rfl
def bgJ:PF:=bpZ.1
def bp3:PS Tryz.f151:=by
 refine⟨?x,?h⟩
 case h=>cbv;rfl
def bgK:PF:=bp3.1
def bp4:PS Tryz.f152:=by
 refine⟨?x,?h⟩
 case h=>cbv;rfl
def aXM:PF:=bp4.1
def bp6:PS Tryz.f153:=by
 refine⟨?x,?h⟩
 case h=>cbv;rfl
def bgL:PF:=bp6.1
def bp7:PS Tryz.f154:=by
 refine⟨?x,?h⟩
 case h=>cbv;rfl
def bgN:PF:=bp7.1
def bp8:PS Tryz.f155:=by
 refine⟨?x,?h⟩
 case h=>cbv;rfl
def bgO:PF:=bp8.1
def bp9:PS Tryz.f156:=by
 refine⟨?x,?h⟩
 case h=>cbv;rfl
def bgP:PF:=bp9.1
def bqb:PS Tryz.f157:=by
 refine⟨?x,?h⟩
 case h=>cbv;rfl
def bgR:PF:=bqb.1
def bqd:PS Tryz.f158:=by
 refine⟨?x,?h⟩
 case h=>cbv;rfl
def bgS:PF:=bqd.1
def bqe:PS Tryz.f160:=by
 refine⟨?x,?h⟩
 case h=>cbv;rfl
def bgZ:PF:=bqe.1
def bql:PS Tryz.f161:=by
 refine⟨?x,?h⟩
 case h=>cbv;rfl
def bg1:PF:=bql.1
def bqm:PS Tryz.f164:=by
 refine⟨?x,?h⟩
 case h=>cbv;rfl
def bg2:PF:=bqm.1
def bqp:PS Tryz.f166:=by
 refine⟨?x,?h⟩
 case h=>cbv;rfl
def bg8:PF:=bqp.1
def bqr:PS Tryz.f167:=by
 refine⟨?x,?h⟩
 case h=>cbv;rfl
def bg9:PF:=bqr.1
def bqt:PS Tryz.f168:=by
 refine⟨?x,?h⟩
 case h=>cbv;rfl
def bhg:PF:=bqt.1
def bqB:PS Tryz.f169:=by
 refine⟨?x,?h⟩
 case h=>cbv;rfl
def bhk:PF:=bqB.1
def bqC:PS Tryz.f170:=by
 refine⟨?x,?h⟩
 case h=>cbv;rfl
def bhr:PF:=bqC.1
def bqE:PS Tryz.f172:=by
 refine⟨?x,?h⟩
 case h=>cbv;rfl
def bhs:PF:=bqE.1
def bqG:PS Tryz.f173:=by
 refine⟨?x,?h⟩
 case h=>cbv;rfl
def bhv:PF:=bqG.1
def bqH:PS Tryz.f174:=by
 refine⟨?x,?h⟩
 case h=>cbv;rfl
def bhx:PF:=bqH.1
def bqI:PS Tryz.f175:=by
 refine⟨?x,?h⟩
 case h=>cbv;rfl
def bhA:PF:=bqI.1
def bqL:PS Tryz.f178:=by
 refine⟨?x,?h⟩
 case h=>cbv;rfl
def bhC:PF:=bqL.1
def bqM:PS Tryz.f184:=by
 refine⟨?x,?h⟩
 case h=>cbv;rfl
def bhD:PF:=bqM.1
def bqO:PS Tryz.f188:=by
 refine⟨?x,?h⟩
 case h=>cbv;rfl
def bhE:PF:=bqO.1
def bqQ:PS Tryz.f192:=by
 refine⟨?x,?h⟩
 case h=>cbv;rfl
def bhF:PF:=bqQ.1
def bqS:PS Tryz.f193:=by
 refine⟨?x,?h⟩
 case h=>cbv;rfl
def avC:PF:=bqS.1
def bqU:PS Tryz.f194:=by
 refine⟨?x,?h⟩
 case h=>cbv;rfl
def bhI:PF:=bqU.1
def bqW:PS Tryz.f195:=by
 refine⟨?x,?h⟩
 case h=>cbv;rfl
def aCf:PF:=bqW.1
def bqX:PS Tryz.f196:=by
 refine⟨?x,?h⟩
 case h=>cbv;rfl
def bhK:PF:=bqX.1
def bq1:PS Tryz.f197:=by
 refine⟨?x,?h⟩
 case h=>cbv;rfl
def bhL:PF:=bq1.1
def bq3:PS Tryz.f198:=by
 refine⟨?x,?h⟩
 case h=>cbv;rfl
def bhR:PF:=bq3.1
def bq6:PS Tryz.f199:=by
 refine⟨?x,?h⟩
 case h=>cbv;rfl
def bhS:PF:=bq6.1
def bq8:PS Tryz.f200:=by
 refine⟨?x,?h⟩
 case h=>cbv;rfl
def bhU:PF:=bq8.1
def brg:PS Tryz.f202:=by
 refine⟨?x,?h⟩
 case h=>cbv;rfl
def bhW:PF:=brg.1
def brh:PS Tryz.f205:=by
 refine⟨?x,?h⟩
 case h=>cbv;rfl
def bhZ:PF:=brh.1
def bri:PS Tryz.f206:=by
 refine⟨?x,?h⟩
 case h=>cbv;rfl
def bh0:PF:=bri.1
def brj:PS Tryz.f207:=by
 refine⟨?x,?h⟩
 case h=>cbv;rfl
def bh2:PF:=brj.1
def brl:PS Tryz.f210:=by
 refine⟨?x,?h⟩
 case h=>cbv;rfl
def bh3:PF:=brl.1
def bro:PS Tryz.f211:=by
 refine⟨?x,?h⟩
 case h=>cbv;rfl
def bh6:PF:=bro.1
def brr:PS Tryz.f212:=by
 refine⟨?x,?h⟩
 case h=>cbv;rfl
def bii:PF:=brr.1
def brv:PS Tryz.f213:=by
 refine⟨?x,?h⟩
 case h=>cbv;rfl
def bil:PF:=brv.1
def brA:PS Tryz.f214:=by
 refine⟨?x,?h⟩
 case h=>cbv;rfl
def bip:PF:=brA.1
def brC:PS Tryz.f215:=by
 refine⟨?x,?h⟩
 case h=>cbv;rfl
def biv:PF:=brC.1
def brD:PS Tryz.f216:=by
 refine⟨?x,?h⟩
 case h=>cbv;rfl
def biy:PF:=brD.1
def brF:PS Tryz.f217:=by
 refine⟨?x,?h⟩
 case h=>cbv;rfl
def biE:PF:=brF.1
def brH:PS Tryz.f218:=by
 refine⟨?x,?h⟩
 case h=>cbv;rfl
def biI:PF:=brH.1
def brI:PS Tryz.f219:=by
 refine⟨?x,?h⟩
 case h=>cbv;rfl
def biL:PF:=brI.1
def brK:PS Tryz.f225:=by
 refine⟨?x,?h⟩
 case h=>cbv;rfl
def biO:PF:=brK.1
def brM:PS Tryz.f232:=by
 refine⟨?x,?h⟩
 case h=>cbv;rfl
def biR:PF:=brM.1
def brP:PS Tryz.f235:=by
 refine⟨?x,?h⟩
 case h=>cbv;rfl
def biY:PF:=brP.1
def brR:PS Tryz.f236:=by
 refine⟨?x,?h⟩
 case h=>cbv;rfl
def aKu:PF:=brR.1
def brS:PS Tryz.f237:=by
 refine⟨?x,?h⟩
 case h=>cbv;rfl
def bi3:PF:=brS.1
def brU:PS Tryz.f238:=by
 refine⟨?x,?h⟩
 case h=>cbv;rfl
def bi5:PF:=brU.1
def brZ:PS Tryz.f240:=by
 refine⟨?x,?h⟩
 case h=>cbv;rfl
def bi7:PF:=brZ.1
def br3:PS Tryz.f241:=by
 refine⟨?x,?h⟩
 case h=>cbv;rfl
def bjd:PF:=br3.1
def bsa:PS Tryz.f242:=by
 refine⟨?x,?h⟩
 case h=>cbv;rfl
def bje:PF:=bsa.1
def bsc:PS Tryz.f243:=by
 refine⟨?x,?h⟩
 case h=>cbv;rfl
def bjg:PF:=bsc.1
def bse:PS Tryz.f244:=by
 refine⟨?x,?h⟩
 case h=>cbv;rfl
def aKw:PF:=bse.1
def bsh:PS Tryz.f245:=by
 refine⟨?x,?h⟩
 case h=>cbv;rfl
def bjj:PF:=bsh.1
def bsi:PS Tryz.f246:=by
 refine⟨?x,?h⟩
 case h=>cbv;rfl
def bjk:PF:=bsi.1
def bsk:PS Tryz.f247:=by
 refine⟨?x,?h⟩
 case h=>cbv;rfl
def bjl:PF:=bsk.1
def bsm:PS Tryz.f248:=by
 refine⟨?x,?h⟩
 case h=>cbv;rfl
def bjn:PF:=bsm.1
def bsn:PS Tryz.f249:=by
 refine⟨?x,?h⟩
 case h=>cbv;rfl
def bjq:PF:=bsn.1
def bsp:PS Tryz.f250:=by
 refine⟨?x,?h⟩
 case h=>cbv;rfl
def bjw:PF:=bsp.1
def bsv:PS Tryz.f251:=by
 refine⟨?x,?h⟩
 case h=>cbv;rfl
def bjA:PF:=bsv.1
def bsw:PS Tryz.f252:=by
 refine⟨?x,?h⟩
 case h=>cbv;rfl
def bjB:PF:=bsw.1
def bsx:PS Tryz.f253:=by
 refine⟨?x,?h⟩
 case h=>cbv;rfl
def bjE:PF:=bsx.1
def bsB:PS Tryz.f265:=by
 refine⟨?x,?h⟩
 case h=>cbv;rfl
def bjK:PF:=bsB.1
def bsC:PS Tryz.f276:=by
 refine⟨?x,?h⟩
 case h=>cbv;rfl
def bjO:PF:=bsC.1
def bsD:PS Tryz.f278:=by
 refine⟨?x,?h⟩
 case h=>cbv;rfl
def bjR:PF:=bsD.1
def bsF:PS Tryz.f286:=by
 refine⟨?x,?h⟩
 case h=>cbv;rfl
def bjU:PF:=bsF.1
def bsH:PS Tryz.f290:=by
 refine⟨?x,?h⟩
 case h=>cbv;rfl
def bjV:PF:=bsH.1
end
end Ex
end Go.Proofs.YtfehlbepjmmkeaaGreatDoor
