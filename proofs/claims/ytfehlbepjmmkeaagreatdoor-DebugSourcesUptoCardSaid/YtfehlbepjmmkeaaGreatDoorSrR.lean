/-
  DERIVED. DebugSources, as the row of the second form states it, and its card. No condition.
-/
import Derived.Test.YtfehlbepjmmkeaaGreatDoorJam
import Derived.Test.YtfehlbepjmmkeaaGreatDoorSane
import Derived.Test.YtfehlbepjmmkeaaGreatDoorTie
import Derived.SevenTiedAt
import Derived.Deep.DeepHandedRow
import Derived.Test.YtfehlbepjmmkeaaGreatDoorFacts4
import Derived.Test.YtfehlbepjmmkeaaGreatDoorCards
namespace Go.Proofs.YtfehlbepjmmkeaaGreatDoor
set_option maxRecDepth 100000
set_option linter.unusedSimpArgs false
set_option linter.unusedVariables false
section
open Go.ChangeShapes Go.WideShapes Go.ChangeAt Go.RowKit
theorem bck {w:World}{b:Nat}{o:Nat}(h:w.heap[0]? =some (.cells #[.iface 354 (.pointer (some ⟨b,o,none⟩))] 228 (0,0))):
 Calls Tryz.prog 12 #[] w fun e w'=>e= .returned (.bool true)∧Keeps w w':=
 (Ex.aVy h).mono (fun _ _ h=>⟨h.1,h.2.1,h.2.2.1,h.2.2.2.1,h.2.2.2.2.1,fun k hk _=>h.2.2.2.2.2 k hk⟩)
section
variable {H:Type}{enc:TypeId×Value→H}
theorem aM4 {C:Checked}{os:Os}{f:FuncId}{fn:Func}{s:OpenSpec}{conds:List PathCond}{apart:Bool}{laid:List (String×DataW Unit)}(w0:World)(args:Array Value)(hos:w0.os=os)
 (hsh:(w0.forCall (fun _ _=>0) ⟨#[],args,[]⟩).Shaped C.prog)
 (hok:Input.okWideB C.prog (w0.forCall (fun _ _=>0) ⟨#[],args,[]⟩) f ⟨#[],args,[]⟩=true)
 (hrow:s.preRow enc C.prog fn conds apart laid (w0.forCall (fun _ _=>0) ⟨#[],args,[]⟩).memory args):
 ∃(w:World)(tape:Tape)(i:Input),w.os=os∧(w.forCall tape i).Shaped C.prog∧i.vars= []∧Input.okWide C.prog (w.forCall tape i) .any w.heap.size f i∧
  s.preRow enc C.prog fn conds apart laid (w.forCall tape i).memory i.args∧(({}:Assume)).holds C.prog (lone (Frame.enter C.prog f i.args .normal) [] (w.forCall tape i)):=
 ⟨w0,fun _ _=>0,⟨#[],args,[]⟩,hos,hsh,(Input.okWide_of_okWideB (base:=0) hok).1,(Input.okWide_of_okWideB hok).2,hrow,by
  simp only[Assume.holds]
  exact⟨by simp,by simp,by simp,by simp,by simp⟩⟩
end
section
theorem aIO (os:Os){H:Type}(enc:TypeId×Value→H):DataW.whole enc Tryz.prog ((World.laidAll Tryz.prog os Rows.debugSourcesUptoRow.laid).forCall (fun _ _=>0) ⟨#[],#[.agg #[.slice none 0 0,.slice none 0 0,.slice none 0 0,.slice none 0 0,.int .i64 0],.int .i64 0],[]⟩).memory Tryz.f4.params.toList Rows.debugSourcesSpec.vars false (#[.agg #[.slice none 0 0,.slice none 0 0,.slice none 0 0,.slice none 0 0,.int .i64 0],.int .i64 0]:Array Value).toList 8=some ([.agg [.nil,.nil,.nil,.nil,.lit (.int .i64 0)],.lit (.int .i64 0)],[],[]):=by kernel_rfl
theorem aEq (os:Os)(H:Type)(enc:TypeId×Value→H):
 ∃(w:World)(tape:Tape)(i:Input),w.os=os∧(w.forCall tape i).Shaped Tryz.prog∧i.vars= []∧Input.okWide Tryz.prog (w.forCall tape i) .any w.heap.size 4 i∧
  (Rows.OpenSpec.upto Rows.debugSourcesSpec).preRow enc Tryz.prog Tryz.f4 [] false Rows.debugSourcesUptoRow.laid (w.forCall tape i).memory i.args∧(({}:Assume)).holds Tryz.prog (lone (Frame.enter Tryz.prog 4 i.args .normal) [] (w.forCall tape i)):=
 aM4 (C:=Tryz.checked) (World.laidAll Tryz.prog os Rows.debugSourcesUptoRow.laid) #[.agg #[.slice none 0 0,.slice none 0 0,.slice none 0 0,.slice none 0 0,.int .i64 0],.int .i64 0] (World.laidAll_os _ _ _)
  (World.shaped_of_ZipB (by kernel_rfl) (by kernel_rfl)) (by kernel_rfl)
  (OpenSpec.preRow_of_cond 8 (aIO os enc) (by kernel_rfl) (fun k hk=>by cases hk;kernel_rfl) (by kernel_rfl)
    (by rw[ajB _ _ _ (by kernel_rfl)];exact laidMet_laidAll _ (by kernel_rfl) (by kernel_rfl)))
end
theorem aAH (H:Type)(enc:TypeId×Value→H)(W:World)(base:Nat)(args:Array Value)(ds gs:List (DataW H))(before:List MemPlace)
 (hval:∀(j:Nat) t v,Tryz.f4.params[j]? =some t→args[j]? =some v→Value.okWide Tryz.prog W .any base t v)
 (hW:DataW.Whole enc Tryz.prog Tryz.f4.params.toList Rows.debugSourcesSpec.vars false W args.toList ds gs before)
 (hk:Rows.uptoSmall H (ds++gs)=true)
 (hsz:(DataW.weightsEach Tryz.prog (Tryz.f4.params.toList++Rows.debugSourcesSpec.plain.varTypes Tryz.prog) (ds++gs)).all (· ≤reachBytes)=true)
 (hL:laidMetH Tryz.prog Rows.debugSourcesUptoRow.laid W) (hsh:W.ShapedOpen Tryz.prog):
 Calls Tryz.prog 4 args W fun e W'=>∃v,e= .returned v∧Rows.debugSourcesSpec.post enc Tryz.prog Tryz.f4 false true false false W args v W':=by
 have hW':=hW
 have hL':laidMetH Tryz.prog Rows.tracedValuesRow.laid W:=hL
 obtain⟨b,o,hcell⟩:=aQZ hsh hL'
 have hvars:=bbY hsh hL'
 obtain⟨p,q,hA0,hV,rfl,hfz,hnd⟩:=hW
 have hA:DataW.TrodAll enc Tryz.prog W 0 (fun _=>true) true Tryz.f4.params.toList args.toList ds p:=hA0
 rw[Tryz.params4]at hA hval hsz
 obtain⟨v0,v1,d0,d1,p0,p1,rfl,rfl,rfl,h0,h1⟩:=trodAll_two hA
 obtain⟨rfl,rfl⟩:=trodVars_none hV
 have hlt0:∀x∈p0,x.block<W.heap.size:=fun x hx=>by simpa using hW'.lt x (by simp[hx])
 have hlt1:∀x∈p1,x.block<W.heap.size:=fun x hx=>by simpa using hW'.lt x (by simp[hx])
 have byR:Fits 34 d0:=fun n hn=>of_decide_eq_true (acg.1 hsz n (DataW.weights_mem_each (j:=0) (t:=34) (d:=d0) rfl rfl n hn))
 have bMO:Rows.uptoBulk d0≤1048576:=by
  have h9:=of_decide_eq_true hk
  simp only[acJ,adt,aht,Rows.uptoBulkAll]at h9
  omega
 obtain⟨e,d,s,st,l,rfl,hst,hnp,hbl⟩:=aVs (hval 0 34 v0 rfl rfl) h0 byR
 obtain⟨y,rfl,rfl,_,w1⟩:=open_int Tryz.underlying3 (hval 1 3 v1 rfl rfl) h1
 clear hA0
 simp only[aht]at hW'
 refine(aIH (fun W' hk=>bck (hk.at hcell (fun x=>x))) hvars e d (fun _=>False) s st l y hst hnp (by omega)).mono fun e W' ⟨he,hk⟩=>?_
 subst he
 have hb:Below W.heap.size W W':=hk.below (aai _) (fun _ h=>h.elim)
 have harg0:DataW.Trod enc Tryz.prog W' 0 (fun b=>decide (b<W.heap.size)) true 34 _ _ _:=
  Below.trod laidOut (by kernel_rfl) (of_decide_eq_true (by kernel_rfl)) h0 hb hlt0
 have harg1:DataW.Trod enc Tryz.prog W' 0 (fun b=>decide (b<W.heap.size)) true 3 _ _ _:=
  Below.trod laidOut (by kernel_rfl) (of_decide_eq_true (by kernel_rfl)) h1 hb hlt1
 have hall:=trodAll_mk2 harg0 harg1
 refine⟨_,rfl,_,_,_,[],_,[],hW',?_,hall,rfl,hb.frame _,fun h=>by cases h⟩
 exact trodAll_mk1 (shut_bool Tryz.underlying4 _)
theorem aGo (os:Os)(started:os.Started)(H:Type)(enc:TypeId×Value→H)(F:Stop.Interp):
 ReturnsInHanded {} Tryz.checked os 4 .any ((Rows.OpenSpec.upto Rows.debugSourcesSpec).preRow enc Tryz.prog Tryz.f4 Rows.debugSourcesUptoRow.domain false Rows.debugSourcesUptoRow.laid) (((Rows.OpenSpec.upto Rows.debugSourcesSpec).at F).post enc Tryz.prog Tryz.f4 false true false false):=by
 refine returnsInHanded_of_row (C:=Tryz.checked) (s:=Rows.OpenSpec.upto Rows.debugSourcesSpec) own started (by kernel_rfl) Tryz.func4 (aEq os H enc) ?_
 intro W base args ds gs before hval hW _ hcond hsz hL hsh _
 exact aAH H enc W base args ds gs before hval hW (hcond _ rfl) hsz hL hsh
theorem axL:Tryz.pinned.checked.prog.funcNamed Rows.debugSourcesUptoRow.func=some 4:=by kernel_rfl
theorem aM5:Tryz.f4.isInstance Tryz.pinned.checked.prog Rows.debugSourcesUptoRow.origin Rows.debugSourcesUptoRow.targs:=of_decide_eq_true (by kernel_rfl)
theorem aM8:Tryz.f4.isWrapper Tryz.pinned.checked.prog Rows.debugSourcesUptoRow.wrapper Rows.debugSourcesUptoRow.mainSum:=by
 unfold Func.isWrapper;first|(rw[if_pos (by decide+kernel)];kernel_rfl)|(rw[if_neg (by decide+kernel)];exact⟨rfl,rfl⟩)
theorem aQ4:Rows.DebugSourcesUptoSaid:=
 OpenClaim.holds_of_cond 4 Tryz.f4 rfl rfl rfl rfl rfl rfl rfl ⟨rfl,rfl,rfl,rfl,rfl⟩ rfl rfl rfl rfl rfl axL Tryz.func4 au8
  aM5 aM8 (fun os started H enc _ F=>by rw[OpenClaim.pre_eq_preRow];exact aGo os started H enc F)
end
section
open Go
theorem aNe (f:FuncId)(fn:Func)(hf:Tryz.pinned.checked.prog.funcNamed Rows.debugSourcesUptoRow.func=some f)(hfn:Tryz.pinned.checked.prog.funcs[f]? =some fn):f=4∧fn=Tryz.f4:=by
 obtain rfl:f=4:=agh (axL.symm.trans hf) |>.symm
 exact⟨rfl,(agh (Tryz.func4.symm.trans hfn)).symm⟩
theorem bcl:Rows.DebugSourcesUptoCardSaid:=
 Claim7.holds_tied_plain_at .later [] [.data,.data,.data,.data,.sentinel,.sentinel,.pinned] true (true,"b979c1de350adf923300bed0958aca5361a679ee644e1753135f1b480f5a2638") true
  aQ4 (fun _ h=>by cases h) (by kernel_rfl) (fun _ h=>by cases h) debugSourcesUpto_row_tie rfl ⟨rfl,rfl⟩ (by kernel_rfl) rfl
  (fun f fn hf hfn=>by
    obtain⟨rfl,rfl⟩:=aNe f fn hf hfn
    exact⟨by kernel_rfl,fun j t ht=>by
     rw[Tryz.params4]at ht
     have hm:t∈[34,3]:=by simpa using Array.mem_of_getElem? ht
     have hall:([34,3].all fun u=>!Tryz.prog.wantsStandIn u)=true:=by kernel_rfl
     exact(show Tryz.prog.wantsStandIn t=false by simpa using acg.1 hall t hm)⟩)
  (by kernel_rfl)
end
end Go.Proofs.YtfehlbepjmmkeaaGreatDoor
