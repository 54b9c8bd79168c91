/-
  DERIVED. More prepared functions of the program that the run of the example enters, as the reckoning of their text gives them. No condition.
-/
import Derived.Test.YtbhiaeciiphelaaGreatDoorTabA
namespace Go.Proofs.YtbhiaeciiphelaaGreatDoor
namespace Ex
noncomputable section
set_option maxRecDepth 1000000
set_option maxHeartbeats 8000000
def pfs132 : PS Tryz.f132 := by
 refine ⟨?x, ?h⟩
 case h => cbv; rfl
def pf132 : PF := pfs132.1
def pfs133 : PS Tryz.f133 := by
 refine ⟨?x, ?h⟩
 case h => cbv; rfl
def pf133 : PF := pfs133.1
def pfs134 : PS Tryz.f134 := by
 refine ⟨?x, ?h⟩
 case h => cbv; rfl
def pf134 : PF := pfs134.1
def pfs135 : PS Tryz.f135 := by
 refine ⟨?x, ?h⟩
 case h => cbv; rfl
def pf135 : PF := pfs135.1
def pfs136 : PS Tryz.f136 := by
 refine ⟨?x, ?h⟩
 case h => cbv; rfl
def pf136 : PF := pfs136.1
def pfs137 : PS Tryz.f137 := by
 refine ⟨?x, ?h⟩
 case h => cbv; rfl
def pf137 : PF := pfs137.1
def pfs138 : PS Tryz.f138 := by
 refine ⟨?x, ?h⟩
 case h => cbv; rfl
def pf138 : PF := pfs138.1
def pfs139 : PS Tryz.f139 := by
 refine ⟨?x, ?h⟩
 case h => cbv; rfl
def pf139 : PF := pfs139.1
def pfs141 : PS Tryz.f141 := by
 refine ⟨?x, ?h⟩
 case h => cbv; rfl
def pf141 : PF := pfs141.1
def pfs142 : PS Tryz.f142 := by
 refine ⟨?x, ?h⟩
 case h => cbv; rfl
def pf142 : PF := pfs142.1
def pfs145 : PS Tryz.f145 := by
 refine ⟨?x, ?h⟩
 case h => cbv; rfl
def pf145 : PF := pfs145.1
def pfs147 : PS Tryz.f147 := by
 refine ⟨?x, ?h⟩
 case h => cbv; rfl
def pf147 : PF := pfs147.1
def pfs148 : PS Tryz.f148 := by
 refine ⟨?x, ?h⟩
 case h => cbv; rfl
def pf148 : PF := pfs148.1
def pfs149 : PS Tryz.f149 := by
 refine ⟨?x, ?h⟩
 case h => cbv; rfl
def pf149 : PF := pfs149.1
def pfs150 : PS Tryz.f150 := by
 refine ⟨?x, ?h⟩
 case h => cbv; rfl
def pf150 : PF := pfs150.1
def pfs151 : PS Tryz.f151 := by
 refine ⟨?x, ?h⟩
 case h => cbv; rfl
def pf151 : PF := pfs151.1
def pfs152 : PS Tryz.f152 := by
 refine ⟨?x, ?h⟩
 case h => cbv; rfl
def pf152 : PF := pfs152.1
def pfs153 : PS Tryz.f153 := by
 refine ⟨?x, ?h⟩
 case h => cbv; rfl
def pf153 : PF := pfs153.1
def pfs154 : PS Tryz.f154 := by
 refine ⟨?x, ?h⟩
 case h => cbv; rfl
def pf154 : PF := pfs154.1
def pfs155 : PS Tryz.f155 := by
 refine ⟨?x, ?h⟩
 case h => cbv; rfl
def pf155 : PF := pfs155.1
def pfs164 : PS Tryz.f164 := by
 refine ⟨?x, ?h⟩
 case h => cbv; rfl
def pf164 : PF := pfs164.1
def pfs165 : PS Tryz.f165 := by
 refine ⟨?x, ?h⟩
 case h => cbv; rfl
def pf165 : PF := pfs165.1
def pfs166 : PS Tryz.f166 := by
 refine ⟨?x, ?h⟩
 case h => cbv; rfl
def pf166 : PF := pfs166.1
def pfs167 : PS Tryz.f167 := by
 refine ⟨?x, ?h⟩
 case h => cbv; rfl
def pf167 : PF := pfs167.1
def pfs168 : PS Tryz.f168 := by
 refine ⟨?x, ?h⟩
 case h => cbv; rfl
def pf168 : PF := pfs168.1
def pfs169 : PS Tryz.f169 := by
 refine ⟨?x, ?h⟩
 case h => cbv; rfl
def pf169 : PF := pfs169.1
def pfs170 : PS Tryz.f170 := by
 refine ⟨?x, ?h⟩
 case h => cbv; rfl
def pf170 : PF := pfs170.1
def pfs171 : PS Tryz.f171 := by
 refine ⟨?x, ?h⟩
 case h => cbv; rfl
def pf171 : PF := pfs171.1
def pfs172 : PS Tryz.f172 := by
 refine ⟨?x, ?h⟩
 case h => cbv; rfl
def pf172 : PF := pfs172.1
def pfs173 : PS Tryz.f173 := by
 refine ⟨?x, ?h⟩
 case h => cbv; rfl
def pf173 : PF := pfs173.1
def pfs174 : PS Tryz.f174 := by
 refine ⟨?x, ?h⟩
 case h => cbv; rfl
def pf174 : PF := pfs174.1
def pfs175 : PS Tryz.f175 := by
 refine ⟨?x, ?h⟩
 case h => cbv; rfl
def pf175 : PF := pfs175.1
def pfs176 : PS Tryz.f176 := by
 refine ⟨?x, ?h⟩
 case h => cbv; rfl
def pf176 : PF := pfs176.1
def pfs177 : PS Tryz.f177 := by
 refine ⟨?x, ?h⟩
 case h => cbv; rfl
def pf177 : PF := pfs177.1
def pfs178 : PS Tryz.f178 := by
 refine ⟨?x, ?h⟩
 case h => cbv; rfl
def pf178 : PF := pfs178.1
def pfs179 : PS Tryz.f179 := by
 refine ⟨?x, ?h⟩
 case h => cbv; rfl
def pf179 : PF := pfs179.1
def pfs181 : PS Tryz.f181 := by
 refine ⟨?x, ?h⟩
 case h => cbv; rfl
def pf181 : PF := pfs181.1
def pfs182 : PS Tryz.f182 := by
 refine ⟨?x, ?h⟩
 case h => cbv; rfl
def pf182 : PF := pfs182.1
def pfs183 : PS Tryz.f183 := by
 refine ⟨?x, ?h⟩
 case h => cbv; rfl
def pf183 : PF := pfs183.1
def pfs184 : PS Tryz.f184 := by
 refine ⟨?x, ?h⟩
 case h => cbv; rfl
def pf184 : PF := pfs184.1
def pfs190 : PS Tryz.f190 := by
 refine ⟨?x, ?h⟩
 case h => cbv; rfl
def pf190 : PF := pfs190.1
def pfs191 : PS Tryz.f191 := by
 refine ⟨?x, ?h⟩
 case h => cbv; rfl
def pf191 : PF := pfs191.1
def pfs192 : PS Tryz.f192 := by
 refine ⟨?x, ?h⟩
 case h => cbv; rfl
def pf192 : PF := pfs192.1
def pfs194 : PS Tryz.f194 := by
 refine ⟨?x, ?h⟩
 case h => cbv; rfl
def pf194 : PF := pfs194.1
def pfs195 : PS Tryz.f195 := by
 refine ⟨?x, ?h⟩
 case h => cbv; rfl
def pf195 : PF := pfs195.1
def pfs196 : PS Tryz.f196 := by
 refine ⟨?x, ?h⟩
 case h => cbv; rfl
def pf196 : PF := pfs196.1
def pfs197 : PS Tryz.f197 := by
 refine ⟨?x, ?h⟩
 case h => cbv; rfl
def pf197 : PF := pfs197.1
def pfs198 : PS Tryz.f198 := by
 refine ⟨?x, ?h⟩
 case h => cbv; rfl
def pf198 : PF := pfs198.1
def pfs199 : PS Tryz.f199 := by
 refine ⟨?x, ?h⟩
 case h => cbv; rfl
def pf199 : PF := pfs199.1
def pfs200 : PS Tryz.f200 := by
 refine ⟨?x, ?h⟩
 case h => cbv; rfl
def pf200 : PF := pfs200.1
def pfs201 : PS Tryz.f201 := by
 refine ⟨?x, ?h⟩
 case h => cbv; rfl
def pf201 : PF := pfs201.1
def pfs202 : PS Tryz.f202 := by
 refine ⟨?x, ?h⟩
 case h => cbv; rfl
def pf202 : PF := pfs202.1
def pfs203 : PS Tryz.f203 := by
 refine ⟨?x, ?h⟩
 case h => cbv; rfl
def pf203 : PF := pfs203.1
def pfs204 : PS Tryz.f204 := by
 refine ⟨?x, ?h⟩
 case h => cbv; rfl
def pf204 : PF := pfs204.1
def pfs205 : PS Tryz.f205 := by
 refine ⟨?x, ?h⟩
 case h => cbv; rfl
def pf205 : PF := pfs205.1
def pfs207 : PS Tryz.f207 := by
 refine ⟨?x, ?h⟩
 case h => cbv; rfl
def pf207 : PF := pfs207.1
def pfs210 : PS Tryz.f210 := by
 refine ⟨?x, ?h⟩
 case h => cbv; rfl
def pf210 : PF := pfs210.1
def pfs211 : PS Tryz.f211 := by
 refine ⟨?x, ?h⟩
 case h => cbv; rfl
def pf211 : PF := pfs211.1
def pfs212 : PS Tryz.f212 := by
 refine ⟨?x, ?h⟩
 case h => cbv; rfl
def pf212 : PF := pfs212.1
def pfs215 : PS Tryz.f215 := by
 refine ⟨?x, ?h⟩
 case h => cbv; rfl
def pf215 : PF := pfs215.1
def pfs216 : PS Tryz.f216 := by
 refine ⟨?x, ?h⟩
 case h => cbv; rfl
def pf216 : PF := pfs216.1
def pfs219 : PS Tryz.f219 := by
 refine ⟨?x, ?h⟩
 case h => cbv; rfl
def pf219 : PF := pfs219.1
def pfs220 : PS Tryz.f220 := by
 refine ⟨?x, ?h⟩
 case h => cbv; rfl
def pf220 : PF := pfs220.1
def pfs222 : PS Tryz.f222 := by
 refine ⟨?x, ?h⟩
 case h => cbv; rfl
def pf222 : PF := pfs222.1
def pfs223 : PS Tryz.f223 := by
 refine ⟨?x, ?h⟩
 case h => cbv; rfl
def pf223 : PF := pfs223.1
def pfs224 : PS Tryz.f224 := by
 refine ⟨?x, ?h⟩
 case h => cbv; rfl
def pf224 : PF := pfs224.1
def pfs225 : PS Tryz.f225 := by
 refine ⟨?x, ?h⟩
 case h => cbv; rfl
def pf225 : PF := pfs225.1
def pfs226 : PS Tryz.f226 := by
 refine ⟨?x, ?h⟩
 case h => cbv; rfl
def pf226 : PF := pfs226.1
def pfs227 : PS Tryz.f227 := by
 refine ⟨?x, ?h⟩
 case h => cbv; rfl
def pf227 : PF := pfs227.1
def pfs228 : PS Tryz.f228 := by
 refine ⟨?x, ?h⟩
 case h => cbv; rfl
def pf228 : PF := pfs228.1
def pfs229 : PS Tryz.f229 := by
 refine ⟨?x, ?h⟩
 case h => cbv; rfl
def pf229 : PF := pfs229.1
def pfs230 : PS Tryz.f230 := by
 refine ⟨?x, ?h⟩
 case h => cbv; rfl
def pf230 : PF := pfs230.1
def pfs232 : PS Tryz.f232 := by
 refine ⟨?x, ?h⟩
 case h => cbv; rfl
def pf232 : PF := pfs232.1
def pfs233 : PS Tryz.f233 := by
 refine ⟨?x, ?h⟩
 case h => cbv; rfl
def pf233 : PF := pfs233.1
def pfs241 : PS Tryz.f241 := by
 refine ⟨?x, ?h⟩
 case h => cbv; rfl
def pf241 : PF := pfs241.1
def pfs253 : PS Tryz.f253 := by
 refine ⟨?x, ?h⟩
 case h => cbv; rfl
def pf253 : PF := pfs253.1
def pfs262 : PS Tryz.f262 := by
 refine ⟨?x, ?h⟩
 case h => cbv; rfl
def pf262 : PF := pfs262.1
def pfs266 : PS Tryz.f266 := by
 refine ⟨?x, ?h⟩
 case h => cbv; rfl
def pf266 : PF := pfs266.1
end
end Ex
end Go.Proofs.YtbhiaeciiphelaaGreatDoor
