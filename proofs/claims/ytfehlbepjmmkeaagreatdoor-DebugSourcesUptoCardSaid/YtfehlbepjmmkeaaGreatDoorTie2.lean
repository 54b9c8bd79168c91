/-
  DERIVED. The prepared functions are those of the program. No condition.
-/
import Derived.Test.YtfehlbepjmmkeaaGreatDoorTab
import Derived.KernelRfl
namespace Go.Proofs.YtfehlbepjmmkeaaGreatDoor
set_option maxRecDepth 100000
set_option linter.unusedSimpArgs false
set_option linter.unusedVariables false
namespace Ex
def Ent (P:Program)(x:Nat×PF):Prop:=∃fn c,P.funcs[x.1]? =some fn∧fn.body=some c∧fn.name≠ "runtime.NumGoroutine" ∧x.2=axM P fn
theorem Ent.mk' {P:Program}{k:Nat}{pf:PF}{fn:Func}(h1:P.funcs[k]? =some fn)(h2:fn.body.isSome=true:=by kernel_rfl)(h3:(fn.name== "runtime.NumGoroutine")=false:=by kernel_rfl)(h4:axM P fn=pf:=by kernel_rfl):Ent P (k,pf):=by
 obtain⟨c,hc⟩:=ajO.1 h2
 exact⟨fn,c,h1,hc,by simpa using h3,h4.symm⟩
theorem aGa {α:Type}:∀{l:List (Nat×α)}{k:Nat}{v:α},(∀x∈l,x.1+1<2^FUEL)→(trie l).get k=some v→(k,v)∈l
 | [],k,v,_,h=>by rw[trie,T.akl]at h;cases h
 |(a,x)::l,k,v,hb,h=>by
  rw[trie,T.aMZ _ _ _ _ _ (hb (a,x) (by simp))]at h
  split at h
  ·rename_i hk
   injection h with h
   subst h
   rw[hk]
   exact ac2
  ·exact abq _ (aGa (fun y hy=>hb y (abq _ hy)) h)
theorem all_nil {α:Type}{p:α→Prop}:∀x∈([]:List α),p x:=fun _ h=>by cases h
theorem all_cons {α:Type}{p:α→Prop}{a:α}{l:List α}(h:p a)(t:∀x∈l,p x):∀x∈a::l,p x:=fun x hx=>by
 rcases abb.1 hx with rfl|hx
 ·exact h
 ·exact t x hx
theorem e6:Ent Tryz.prog (6,pf6):= .mk' Tryz.func6
theorem e12:Ent Tryz.prog (12,aww):= .mk' Tryz.func12
theorem e14:Ent Tryz.prog (14,aNl):= .mk' Tryz.func14
theorem e16:Ent Tryz.prog (16,bzA):= .mk' Tryz.func16
theorem e17:Ent Tryz.prog (17,aRm):= .mk' Tryz.func17
theorem e19:Ent Tryz.prog (19,bzC):= .mk' Tryz.func19
theorem e20:Ent Tryz.prog (20,bzG):= .mk' Tryz.func20
theorem e21:Ent Tryz.prog (21,bzL):= .mk' Tryz.func21
theorem e27:Ent Tryz.prog (27,a6g):= .mk' Tryz.func27
theorem e32:Ent Tryz.prog (32,bzM):= .mk' Tryz.func32
theorem e33:Ent Tryz.prog (33,aVR):= .mk' Tryz.func33
theorem e34:Ent Tryz.prog (34,bzQ):= .mk' Tryz.func34
theorem e35:Ent Tryz.prog (35,bzU):= .mk' Tryz.func35
theorem e36:Ent Tryz.prog (36,bzV):= .mk' Tryz.func36
theorem e37:Ent Tryz.prog (37,bzX):= .mk' Tryz.func37
theorem e38:Ent Tryz.prog (38,bzY):= .mk' Tryz.func38
theorem e40:Ent Tryz.prog (40,bzZ):= .mk' Tryz.func40
theorem e41:Ent Tryz.prog (41,bz4):= .mk' Tryz.func41
theorem e42:Ent Tryz.prog (42,aRn):= .mk' Tryz.func42
theorem e43:Ent Tryz.prog (43,bz7):= .mk' Tryz.func43
theorem e44:Ent Tryz.prog (44,bAe):= .mk' Tryz.func44
theorem e45:Ent Tryz.prog (45,aVU):= .mk' Tryz.func45
theorem e46:Ent Tryz.prog (46,bAg):= .mk' Tryz.func46
theorem e54:Ent Tryz.prog (54,bcE):= .mk' Tryz.func54
theorem e55:Ent Tryz.prog (55,bcF):= .mk' Tryz.func55
theorem e56:Ent Tryz.prog (56,boc):= .mk' Tryz.func56
theorem e57:Ent Tryz.prog (57,a04):= .mk' Tryz.func57
theorem e58:Ent Tryz.prog (58,bAi):= .mk' Tryz.func58
theorem e59:Ent Tryz.prog (59,bAl):= .mk' Tryz.func59
theorem e60:Ent Tryz.prog (60,bAo):= .mk' Tryz.func60
theorem e61:Ent Tryz.prog (61,bAt):= .mk' Tryz.func61
theorem e62:Ent Tryz.prog (62,bAv):= .mk' Tryz.func62
theorem e63:Ent Tryz.prog (63,bAw):= .mk' Tryz.func63
theorem e74:Ent Tryz.prog (74,bAy):= .mk' Tryz.func74
theorem e77:Ent Tryz.prog (77,bcI):= .mk' Tryz.func77
theorem e80:Ent Tryz.prog (80,bAA):= .mk' Tryz.func80
theorem e81:Ent Tryz.prog (81,bAB):= .mk' Tryz.func81
theorem e82:Ent Tryz.prog (82,bAD):= .mk' Tryz.func82
theorem e83:Ent Tryz.prog (83,bAF):= .mk' Tryz.func83
theorem e84:Ent Tryz.prog (84,bAI):= .mk' Tryz.func84
theorem e85:Ent Tryz.prog (85,bAM):= .mk' Tryz.func85
theorem e86:Ent Tryz.prog (86,bAN):= .mk' Tryz.func86
theorem e87:Ent Tryz.prog (87,bAS):= .mk' Tryz.func87
theorem e88:Ent Tryz.prog (88,bAU):= .mk' Tryz.func88
theorem e89:Ent Tryz.prog (89,bA0):= .mk' Tryz.func89
theorem e90:Ent Tryz.prog (90,bA3):= .mk' Tryz.func90
theorem e91:Ent Tryz.prog (91,bA7):= .mk' Tryz.func91
theorem e92:Ent Tryz.prog (92,bA8):= .mk' Tryz.func92
theorem e93:Ent Tryz.prog (93,bA9):= .mk' Tryz.func93
theorem e94:Ent Tryz.prog (94,bBa):= .mk' Tryz.func94
theorem e95:Ent Tryz.prog (95,bBc):= .mk' Tryz.func95
theorem e96:Ent Tryz.prog (96,bBe):= .mk' Tryz.func96
theorem e99:Ent Tryz.prog (99,aRl):= .mk' Tryz.func99
theorem e100:Ent Tryz.prog (100,beW):= .mk' Tryz.func100
theorem bJG:Ent Tryz.prog (101,beY):= .mk' Tryz.func101
theorem bJH:Ent Tryz.prog (102,be1):= .mk' Tryz.func102
theorem bJI:Ent Tryz.prog (103,be3):= .mk' Tryz.func103
theorem bJJ:Ent Tryz.prog (104,be6):= .mk' Tryz.func104
theorem bJO:Ent Tryz.prog (105,be8):= .mk' Tryz.func105
theorem bJQ:Ent Tryz.prog (106,be9):= .mk' Tryz.func106
theorem bJR:Ent Tryz.prog (107,bfg):= .mk' Tryz.func107
theorem e108:Ent Tryz.prog (108,bfh):= .mk' Tryz.func108
theorem e109:Ent Tryz.prog (109,as1):= .mk' Tryz.func109
theorem bJS:Ent Tryz.prog (111,bfp):= .mk' Tryz.func111
theorem bJU:Ent Tryz.prog (112,bfy):= .mk' Tryz.func112
theorem bJZ:Ent Tryz.prog (113,bfC):= .mk' Tryz.func113
theorem bJ3:Ent Tryz.prog (114,bfD):= .mk' Tryz.func114
theorem e115:Ent Tryz.prog (115,bfE):= .mk' Tryz.func115
theorem e116:Ent Tryz.prog (116,bfI):= .mk' Tryz.func116
theorem e117:Ent Tryz.prog (117,bex):= .mk' Tryz.func117
theorem e118:Ent Tryz.prog (118,bfK):= .mk' Tryz.func118
theorem e119:Ent Tryz.prog (119,bfN):= .mk' Tryz.func119
theorem e120:Ent Tryz.prog (120,bfP):= .mk' Tryz.func120
theorem bJ4:Ent Tryz.prog (121,bfY):= .mk' Tryz.func121
theorem bKe:Ent Tryz.prog (124,aXQ):= .mk' Tryz.func124
theorem e125:Ent Tryz.prog (125,bf1):= .mk' Tryz.func125
theorem bKg:Ent Tryz.prog (133,bf3):= .mk' Tryz.func133
theorem bKk:Ent Tryz.prog (134,bf5):= .mk' Tryz.func134
theorem bKl:Ent Tryz.prog (139,bf8):= .mk' Tryz.func139
theorem bKo:Ent Tryz.prog (140,bgb):= .mk' Tryz.func140
theorem bKq:Ent Tryz.prog (141,bgh):= .mk' Tryz.func141
theorem bKt:Ent Tryz.prog (142,bgk):= .mk' Tryz.func142
theorem e143:Ent Tryz.prog (143,bgl):= .mk' Tryz.func143
theorem bKu:Ent Tryz.prog (144,bgq):= .mk' Tryz.func144
theorem bKx:Ent Tryz.prog (145,bgw):= .mk' Tryz.func145
theorem bKy:Ent Tryz.prog (147,bgC):= .mk' Tryz.func147
theorem bKz:Ent Tryz.prog (148,bgG):= .mk' Tryz.func148
theorem bKA:Ent Tryz.prog (149,bgI):= .mk' Tryz.func149
theorem bKB:Ent Tryz.prog (150,bgJ):= .mk' Tryz.func150
theorem bKD:Ent Tryz.prog (151,bgK):= .mk' Tryz.func151
theorem e152:Ent Tryz.prog (152,aXM):= .mk' Tryz.func152
theorem e153:Ent Tryz.prog (153,bgL):= .mk' Tryz.func153
theorem e154:Ent Tryz.prog (154,bgN):= .mk' Tryz.func154
theorem bKE:Ent Tryz.prog (155,bgO):= .mk' Tryz.func155
theorem bKH:Ent Tryz.prog (156,bgP):= .mk' Tryz.func156
theorem bKK:Ent Tryz.prog (157,bgR):= .mk' Tryz.func157
theorem bKL:Ent Tryz.prog (158,bgS):= .mk' Tryz.func158
theorem bKQ:Ent Tryz.prog (159,beC):= .mk' Tryz.func159
theorem e160:Ent Tryz.prog (160,bgZ):= .mk' Tryz.func160
theorem e161:Ent Tryz.prog (161,bg1):= .mk' Tryz.func161
theorem bKU:Ent Tryz.prog (164,bg2):= .mk' Tryz.func164
theorem e165:Ent Tryz.prog (165,beJ):= .mk' Tryz.func165
theorem e166:Ent Tryz.prog (166,bg8):= .mk' Tryz.func166
theorem e167:Ent Tryz.prog (167,bg9):= .mk' Tryz.func167
theorem e168:Ent Tryz.prog (168,bhg):= .mk' Tryz.func168
theorem e169:Ent Tryz.prog (169,bhk):= .mk' Tryz.func169
theorem e170:Ent Tryz.prog (170,bhr):= .mk' Tryz.func170
theorem bK5:Ent Tryz.prog (172,bhs):= .mk' Tryz.func172
theorem bK9:Ent Tryz.prog (173,bhv):= .mk' Tryz.func173
theorem bLa:Ent Tryz.prog (174,bhx):= .mk' Tryz.func174
theorem bLd:Ent Tryz.prog (175,bhA):= .mk' Tryz.func175
theorem bLe:Ent Tryz.prog (178,bhC):= .mk' Tryz.func178
theorem bLf:Ent Tryz.prog (184,bhD):= .mk' Tryz.func184
theorem bLk:Ent Tryz.prog (188,bhE):= .mk' Tryz.func188
theorem bLn:Ent Tryz.prog (192,bhF):= .mk' Tryz.func192
theorem bLo:Ent Tryz.prog (193,avC):= .mk' Tryz.func193
theorem bLs:Ent Tryz.prog (194,bhI):= .mk' Tryz.func194
theorem e195:Ent Tryz.prog (195,aCf):= .mk' Tryz.func195
theorem bLu:Ent Tryz.prog (196,bhK):= .mk' Tryz.func196
theorem e197:Ent Tryz.prog (197,bhL):= .mk' Tryz.func197
theorem bLv:Ent Tryz.prog (198,bhR):= .mk' Tryz.func198
theorem e199:Ent Tryz.prog (199,bhS):= .mk' Tryz.func199
theorem e200:Ent Tryz.prog (200,bhU):= .mk' Tryz.func200
theorem bLw:Ent Tryz.prog (202,bhW):= .mk' Tryz.func202
theorem bLy:Ent Tryz.prog (205,bhZ):= .mk' Tryz.func205
theorem e206:Ent Tryz.prog (206,bh0):= .mk' Tryz.func206
theorem e207:Ent Tryz.prog (207,bh2):= .mk' Tryz.func207
theorem e208:Ent Tryz.prog (208,beL):= .mk' Tryz.func208
theorem e210:Ent Tryz.prog (210,bh3):= .mk' Tryz.func210
theorem e211:Ent Tryz.prog (211,bh6):= .mk' Tryz.func211
theorem e212:Ent Tryz.prog (212,bii):= .mk' Tryz.func212
theorem e213:Ent Tryz.prog (213,bil):= .mk' Tryz.func213
theorem e214:Ent Tryz.prog (214,bip):= .mk' Tryz.func214
theorem e215:Ent Tryz.prog (215,biv):= .mk' Tryz.func215
theorem e216:Ent Tryz.prog (216,biy):= .mk' Tryz.func216
theorem e217:Ent Tryz.prog (217,biE):= .mk' Tryz.func217
theorem bLB:Ent Tryz.prog (218,biI):= .mk' Tryz.func218
theorem e219:Ent Tryz.prog (219,biL):= .mk' Tryz.func219
theorem e221:Ent Tryz.prog (221,beM):= .mk' Tryz.func221
theorem bLF:Ent Tryz.prog (225,biO):= .mk' Tryz.func225
theorem e232:Ent Tryz.prog (232,biR):= .mk' Tryz.func232
theorem bLG:Ent Tryz.prog (235,biY):= .mk' Tryz.func235
theorem bLH:Ent Tryz.prog (236,aKu):= .mk' Tryz.func236
theorem e237:Ent Tryz.prog (237,bi3):= .mk' Tryz.func237
theorem e238:Ent Tryz.prog (238,bi5):= .mk' Tryz.func238
theorem e240:Ent Tryz.prog (240,bi7):= .mk' Tryz.func240
theorem e241:Ent Tryz.prog (241,bjd):= .mk' Tryz.func241
theorem e242:Ent Tryz.prog (242,bje):= .mk' Tryz.func242
theorem e243:Ent Tryz.prog (243,bjg):= .mk' Tryz.func243
theorem e244:Ent Tryz.prog (244,aKw):= .mk' Tryz.func244
theorem e245:Ent Tryz.prog (245,bjj):= .mk' Tryz.func245
theorem e246:Ent Tryz.prog (246,bjk):= .mk' Tryz.func246
theorem e247:Ent Tryz.prog (247,bjl):= .mk' Tryz.func247
theorem e248:Ent Tryz.prog (248,bjn):= .mk' Tryz.func248
theorem e249:Ent Tryz.prog (249,bjq):= .mk' Tryz.func249
theorem e250:Ent Tryz.prog (250,bjw):= .mk' Tryz.func250
theorem e251:Ent Tryz.prog (251,bjA):= .mk' Tryz.func251
theorem e252:Ent Tryz.prog (252,bjB):= .mk' Tryz.func252
theorem bLI:Ent Tryz.prog (253,bjE):= .mk' Tryz.func253
theorem bLK:Ent Tryz.prog (265,bjK):= .mk' Tryz.func265
theorem bLM:Ent Tryz.prog (276,bjO):= .mk' Tryz.func276
theorem bLO:Ent Tryz.prog (277,beR):= .mk' Tryz.func277
theorem e278:Ent Tryz.prog (278,bjR):= .mk' Tryz.func278
theorem bLQ:Ent Tryz.prog (286,bjU):= .mk' Tryz.func286
theorem e290:Ent Tryz.prog (290,bjV):= .mk' Tryz.func290
theorem bsK:∀x∈tab,Ent Tryz.prog x:=by
 unfold tab
 exact all_cons e6<|all_cons e12<|all_cons e14<|all_cons e16<|all_cons e17<|all_cons e19<|all_cons e20<|all_cons e21<|all_cons e27<|all_cons e32<|all_cons e33<|all_cons e34<|all_cons e35<|all_cons e36<|all_cons e37<|all_cons e38<|all_cons e40<|all_cons e41<|all_cons e42<|all_cons e43<|all_cons e44<|all_cons e45<|all_cons e46<|all_cons e54<|all_cons e55<|all_cons e56<|all_cons e57<|all_cons e58<|all_cons e59<|all_cons e60<|all_cons e61<|all_cons e62<|all_cons e63<|all_cons e74<|all_cons e77<|all_cons e80<|all_cons e81<|all_cons e82<|all_cons e83<|all_cons e84<|all_cons e85<|all_cons e86<|all_cons e87<|all_cons e88<|all_cons e89<|all_cons e90<|all_cons e91<|all_cons e92<|all_cons e93<|all_cons e94<|all_cons e95<|all_cons e96<|all_cons e99<|all_cons e100<|all_cons bJG<|all_cons bJH<|all_cons bJI<|all_cons bJJ<|all_cons bJO<|all_cons bJQ<|all_cons bJR<|all_cons e108<|all_cons e109<|all_cons bJS<|all_cons bJU<|all_cons bJZ<|all_cons bJ3<|all_cons e115<|all_cons e116<|all_cons e117<|all_cons e118<|all_cons e119<|all_cons e120<|all_cons bJ4<|all_cons bKe<|all_cons e125<|all_cons bKg<|all_cons bKk<|all_cons bKl<|all_cons bKo<|all_cons bKq<|all_cons bKt<|all_cons e143<|all_cons bKu<|all_cons bKx<|all_cons bKy<|all_cons bKz<|all_cons bKA<|all_cons bKB<|all_cons bKD<|all_cons e152<|all_cons e153<|all_cons e154<|all_cons bKE<|all_cons bKH<|all_cons bKK<|all_cons bKL<|all_cons bKQ<|all_cons e160<|all_cons e161<|all_cons bKU<|all_cons e165<|all_cons e166<|all_cons e167<|all_cons e168<|all_cons e169<|all_cons e170<|all_cons bK5<|all_cons bK9<|all_cons bLa<|all_cons bLd<|all_cons bLe<|all_cons bLf<|all_cons bLk<|all_cons bLn<|all_cons bLo<|all_cons bLs<|all_cons e195<|all_cons bLu<|all_cons e197<|all_cons bLv<|all_cons e199<|all_cons e200<|all_cons bLw<|all_cons bLy<|all_cons e206<|all_cons e207<|all_cons e208<|all_cons e210<|all_cons e211<|all_cons e212<|all_cons e213<|all_cons e214<|all_cons e215<|all_cons e216<|all_cons e217<|all_cons bLB<|all_cons e219<|all_cons e221<|all_cons bLF<|all_cons e232<|all_cons bLG<|all_cons bLH<|all_cons e237<|all_cons e238<|all_cons e240<|all_cons e241<|all_cons e242<|all_cons e243<|all_cons e244<|all_cons e245<|all_cons e246<|all_cons e247<|all_cons e248<|all_cons e249<|all_cons e250<|all_cons e251<|all_cons e252<|all_cons bLI<|all_cons bLK<|all_cons bLM<|all_cons bLO<|all_cons e278<|all_cons bLQ<|all_cons e290<|all_nil
theorem table:Table Tryz.prog C:=fun f pf h=>bsK (f,pf) (aGa (fun x hx=>by
 have h0:tab.all (fun x=>decide (x.1+1<2^FUEL))=true:=by kernel_rfl
 exact of_decide_eq_true (acg.1 h0 x hx)) h)
end Ex
end Go.Proofs.YtfehlbepjmmkeaaGreatDoor
