/-
  DERIVED. More prepared functions of the program that the run of the example enters, as the reckoning of their text gives them. No condition.
-/
import Derived.Test.YtfehlbepjmmkeaaGreatDoorTabA
namespace Go.Proofs.YtfehlbepjmmkeaaGreatDoor
namespace Ex
noncomputable section
set_option maxRecDepth 1000000
set_option maxHeartbeats 8000000
def pfs149 : PS Tryz.f149 := by
 refine ⟨?x, ?h⟩
 case h => cbv; rfl
def pf149 : PF := pfs149.1
def pfs150 : PS Tryz.f150 := by
 refine ⟨?x, ?h⟩
 case h => cbv; rfl
def pf150 : PF := pfs150.1
def pfs151 : PS Tryz.f151 := by
 refine ⟨?x, ?h⟩
 case h => cbv; rfl
def pf151 : PF := pfs151.1
def pfs152 : PS Tryz.f152 := by
 refine ⟨?x, ?h⟩
 case h => cbv; rfl
def pf152 : PF := pfs152.1
def pfs153 : PS Tryz.f153 := by
 refine ⟨?x, ?h⟩
 case h => cbv; rfl
def pf153 : PF := pfs153.1
def pfs154 : PS Tryz.f154 := by
 refine ⟨?x, ?h⟩
 case h => cbv; rfl
def pf154 : PF := pfs154.1
def pfs155 : PS Tryz.f155 := by
 refine ⟨?x, ?h⟩
 case h => cbv; rfl
def pf155 : PF := pfs155.1
def pfs156 : PS Tryz.f156 := by
 refine ⟨?x, ?h⟩
 case h => cbv; rfl
def pf156 : PF := pfs156.1
def pfs157 : PS Tryz.f157 := by
 refine ⟨?x, ?h⟩
 case h => cbv; rfl
def pf157 : PF := pfs157.1
def pfs158 : PS Tryz.f158 := by
 refine ⟨?x, ?h⟩
 case h => cbv; rfl
def pf158 : PF := pfs158.1
def pfs160 : PS Tryz.f160 := by
 refine ⟨?x, ?h⟩
 case h => cbv; rfl
def pf160 : PF := pfs160.1
def pfs161 : PS Tryz.f161 := by
 refine ⟨?x, ?h⟩
 case h => cbv; rfl
def pf161 : PF := pfs161.1
def pfs164 : PS Tryz.f164 := by
 refine ⟨?x, ?h⟩
 case h => cbv; rfl
def pf164 : PF := pfs164.1
def pfs166 : PS Tryz.f166 := by
 refine ⟨?x, ?h⟩
 case h => cbv; rfl
def pf166 : PF := pfs166.1
def pfs167 : PS Tryz.f167 := by
 refine ⟨?x, ?h⟩
 case h => cbv; rfl
def pf167 : PF := pfs167.1
def pfs168 : PS Tryz.f168 := by
 refine ⟨?x, ?h⟩
 case h => cbv; rfl
def pf168 : PF := pfs168.1
def pfs169 : PS Tryz.f169 := by
 refine ⟨?x, ?h⟩
 case h => cbv; rfl
def pf169 : PF := pfs169.1
def pfs170 : PS Tryz.f170 := by
 refine ⟨?x, ?h⟩
 case h => cbv; rfl
def pf170 : PF := pfs170.1
def pfs171 : PS Tryz.f171 := by
 refine ⟨?x, ?h⟩
 case h => cbv; rfl
def pf171 : PF := pfs171.1
def pfs172 : PS Tryz.f172 := by
 refine ⟨?x, ?h⟩
 case h => cbv; rfl
def pf172 : PF := pfs172.1
def pfs173 : PS Tryz.f173 := by
 refine ⟨?x, ?h⟩
 case h => cbv; rfl
def pf173 : PF := pfs173.1
def pfs174 : PS Tryz.f174 := by
 refine ⟨?x, ?h⟩
 case h => cbv; rfl
def pf174 : PF := pfs174.1
def pfs175 : PS Tryz.f175 := by
 refine ⟨?x, ?h⟩
 case h => cbv; rfl
def pf175 : PF := pfs175.1
def pfs176 : PS Tryz.f176 := by
 refine ⟨?x, ?h⟩
 case h => cbv; rfl
def pf176 : PF := pfs176.1
def pfs178 : PS Tryz.f178 := by
 refine ⟨?x, ?h⟩
 case h => cbv; rfl
def pf178 : PF := pfs178.1
def pfs184 : PS Tryz.f184 := by
 refine ⟨?x, ?h⟩
 case h => cbv; rfl
def pf184 : PF := pfs184.1
def pfs188 : PS Tryz.f188 := by
 refine ⟨?x, ?h⟩
 case h => cbv; rfl
def pf188 : PF := pfs188.1
def pfs189 : PS Tryz.f189 := by
 refine ⟨?x, ?h⟩
 case h => cbv; rfl
def pf189 : PF := pfs189.1
def pfs190 : PS Tryz.f190 := by
 refine ⟨?x, ?h⟩
 case h => cbv; rfl
def pf190 : PF := pfs190.1
def pfs193 : PS Tryz.f193 := by
 refine ⟨?x, ?h⟩
 case h => cbv; rfl
def pf193 : PF := pfs193.1
def pfs194 : PS Tryz.f194 := by
 refine ⟨?x, ?h⟩
 case h => cbv; rfl
def pf194 : PF := pfs194.1
def pfs195 : PS Tryz.f195 := by
 refine ⟨?x, ?h⟩
 case h => cbv; rfl
def pf195 : PF := pfs195.1
def pfs196 : PS Tryz.f196 := by
 refine ⟨?x, ?h⟩
 case h => cbv; rfl
def pf196 : PF := pfs196.1
def pfs197 : PS Tryz.f197 := by
 refine ⟨?x, ?h⟩
 case h => cbv; rfl
def pf197 : PF := pfs197.1
def pfs198 : PS Tryz.f198 := by
 refine ⟨?x, ?h⟩
 case h => cbv; rfl
def pf198 : PF := pfs198.1
def pfs199 : PS Tryz.f199 := by
 refine ⟨?x, ?h⟩
 case h => cbv; rfl
def pf199 : PF := pfs199.1
def pfs200 : PS Tryz.f200 := by
 refine ⟨?x, ?h⟩
 case h => cbv; rfl
def pf200 : PF := pfs200.1
def pfs202 : PS Tryz.f202 := by
 refine ⟨?x, ?h⟩
 case h => cbv; rfl
def pf202 : PF := pfs202.1
def pfs205 : PS Tryz.f205 := by
 refine ⟨?x, ?h⟩
 case h => cbv; rfl
def pf205 : PF := pfs205.1
def pfs206 : PS Tryz.f206 := by
 refine ⟨?x, ?h⟩
 case h => cbv; rfl
def pf206 : PF := pfs206.1
def pfs207 : PS Tryz.f207 := by
 refine ⟨?x, ?h⟩
 case h => cbv; rfl
def pf207 : PF := pfs207.1
def pfs210 : PS Tryz.f210 := by
 refine ⟨?x, ?h⟩
 case h => cbv; rfl
def pf210 : PF := pfs210.1
def pfs211 : PS Tryz.f211 := by
 refine ⟨?x, ?h⟩
 case h => cbv; rfl
def pf211 : PF := pfs211.1
def pfs212 : PS Tryz.f212 := by
 refine ⟨?x, ?h⟩
 case h => cbv; rfl
def pf212 : PF := pfs212.1
def pfs213 : PS Tryz.f213 := by
 refine ⟨?x, ?h⟩
 case h => cbv; rfl
def pf213 : PF := pfs213.1
def pfs214 : PS Tryz.f214 := by
 refine ⟨?x, ?h⟩
 case h => cbv; rfl
def pf214 : PF := pfs214.1
def pfs215 : PS Tryz.f215 := by
 refine ⟨?x, ?h⟩
 case h => cbv; rfl
def pf215 : PF := pfs215.1
def pfs216 : PS Tryz.f216 := by
 refine ⟨?x, ?h⟩
 case h => cbv; rfl
def pf216 : PF := pfs216.1
def pfs217 : PS Tryz.f217 := by
 refine ⟨?x, ?h⟩
 case h => cbv; rfl
def pf217 : PF := pfs217.1
def pfs218 : PS Tryz.f218 := by
 refine ⟨?x, ?h⟩
 case h => cbv; rfl
def pf218 : PF := pfs218.1
def pfs219 : PS Tryz.f219 := by
 refine ⟨?x, ?h⟩
 case h => cbv; rfl
def pf219 : PF := pfs219.1
def pfs220 : PS Tryz.f220 := by
 refine ⟨?x, ?h⟩
 case h => cbv; rfl
def pf220 : PF := pfs220.1
def pfs225 : PS Tryz.f225 := by
 refine ⟨?x, ?h⟩
 case h => cbv; rfl
def pf225 : PF := pfs225.1
def pfs232 : PS Tryz.f232 := by
 refine ⟨?x, ?h⟩
 case h => cbv; rfl
def pf232 : PF := pfs232.1
def pfs236 : PS Tryz.f236 := by
 refine ⟨?x, ?h⟩
 case h => cbv; rfl
def pf236 : PF := pfs236.1
def pfs237 : PS Tryz.f237 := by
 refine ⟨?x, ?h⟩
 case h => cbv; rfl
def pf237 : PF := pfs237.1
def pfs238 : PS Tryz.f238 := by
 refine ⟨?x, ?h⟩
 case h => cbv; rfl
def pf238 : PF := pfs238.1
def pfs240 : PS Tryz.f240 := by
 refine ⟨?x, ?h⟩
 case h => cbv; rfl
def pf240 : PF := pfs240.1
def pfs241 : PS Tryz.f241 := by
 refine ⟨?x, ?h⟩
 case h => cbv; rfl
def pf241 : PF := pfs241.1
def pfs242 : PS Tryz.f242 := by
 refine ⟨?x, ?h⟩
 case h => cbv; rfl
def pf242 : PF := pfs242.1
def pfs243 : PS Tryz.f243 := by
 refine ⟨?x, ?h⟩
 case h => cbv; rfl
def pf243 : PF := pfs243.1
def pfs244 : PS Tryz.f244 := by
 refine ⟨?x, ?h⟩
 case h => cbv; rfl
def pf244 : PF := pfs244.1
def pfs245 : PS Tryz.f245 := by
 refine ⟨?x, ?h⟩
 case h => cbv; rfl
def pf245 : PF := pfs245.1
def pfs246 : PS Tryz.f246 := by
 refine ⟨?x, ?h⟩
 case h => cbv; rfl
def pf246 : PF := pfs246.1
def pfs247 : PS Tryz.f247 := by
 refine ⟨?x, ?h⟩
 case h => cbv; rfl
def pf247 : PF := pfs247.1
def pfs248 : PS Tryz.f248 := by
 refine ⟨?x, ?h⟩
 case h => cbv; rfl
def pf248 : PF := pfs248.1
def pfs249 : PS Tryz.f249 := by
 refine ⟨?x, ?h⟩
 case h => cbv; rfl
def pf249 : PF := pfs249.1
def pfs250 : PS Tryz.f250 := by
 refine ⟨?x, ?h⟩
 case h => cbv; rfl
def pf250 : PF := pfs250.1
def pfs251 : PS Tryz.f251 := by
 refine ⟨?x, ?h⟩
 case h => cbv; rfl
def pf251 : PF := pfs251.1
def pfs252 : PS Tryz.f252 := by
 refine ⟨?x, ?h⟩
 case h => cbv; rfl
def pf252 : PF := pfs252.1
def pfs253 : PS Tryz.f253 := by
 refine ⟨?x, ?h⟩
 case h => cbv; rfl
def pf253 : PF := pfs253.1
def pfs256 : PS Tryz.f256 := by
 refine ⟨?x, ?h⟩
 case h => cbv; rfl
def pf256 : PF := pfs256.1
def pfs265 : PS Tryz.f265 := by
 refine ⟨?x, ?h⟩
 case h => cbv; rfl
def pf265 : PF := pfs265.1
def pfs276 : PS Tryz.f276 := by
 refine ⟨?x, ?h⟩
 case h => cbv; rfl
def pf276 : PF := pfs276.1
def pfs278 : PS Tryz.f278 := by
 refine ⟨?x, ?h⟩
 case h => cbv; rfl
def pf278 : PF := pfs278.1
def pfs280 : PS Tryz.f280 := by
 refine ⟨?x, ?h⟩
 case h => cbv; rfl
def pf280 : PF := pfs280.1
def pfs286 : PS Tryz.f286 := by
 refine ⟨?x, ?h⟩
 case h => cbv; rfl
def pf286 : PF := pfs286.1
def pfs290 : PS Tryz.f290 := by
 refine ⟨?x, ?h⟩
 case h => cbv; rfl
def pf290 : PF := pfs290.1
end
end Ex
end Go.Proofs.YtfehlbepjmmkeaaGreatDoor
