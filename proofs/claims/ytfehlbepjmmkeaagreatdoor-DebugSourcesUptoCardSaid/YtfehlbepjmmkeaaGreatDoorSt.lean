/-
  DERIVED. The states of the run of the example between its parts. No condition.
-/
import Derived.Test.YtfehlbepjmmkeaaGreatDoorTab
namespace Go.Proofs.YtfehlbepjmmkeaaGreatDoor
set_option maxRecDepth 100000
namespace Ex
noncomputable section
def q0:Nat:=2539885438198746453561314746756173059887433746902603427331373363380165265037693908179407294137495743258000051586716546073372950029797395194459860130204661079025703935500586410698395373883869382244669016457109519406011046604182598384873175849940981335439608188945601009248257990031807422235076341037429261425142235397263047331900414131601755000894823575375036340391189606551932490334532836259587225064111453231367383771861525000624046626659442527016564159523278246013731188429310239625555348689420347613266868130921404455229170865929720700006177520942739475518548302246995579172144341734561082755223065034047716156838953102195390918984745943005884293865828
def qz (n:Nat):Nat:=Nat.shiftRight q0 n
def q1:Nat:=qz 40
def q2:Nat:=qz 72
def q3:Nat:=qz 88
def q4:Nat:=qz 128
def q5:Nat:=qz 144
def q6:Nat:=qz 160
def q7:Nat:=qz 176
def q8:Nat:=qz 216
def q9:Nat:=qz 256
def q10:Nat:=qz 272
def q11:Nat:=qz 312
def q12:Nat:=qz 328
def q13:Nat:=qz 344
def q14:Nat:=qz 360
def q15:Nat:=qz 376
def q16:Nat:=qz 392
def q17:Nat:=qz 408
def q18:Nat:=qz 456
def q19:Nat:=qz 472
def q20:Nat:=qz 488
def q21:Nat:=qz 520
def q22:Nat:=qz 552
def q23:Nat:=qz 568
def q24:Nat:=qz 584
def q25:Nat:=qz 600
def q26:Nat:=qz 616
def q27:Nat:=qz 640
def q28:Nat:=qz 672
def q29:Nat:=qz 688
def q30:Nat:=qz 704
def q31:Nat:=qz 744
def q32:Nat:=qz 760
def q33:Nat:=qz 776
def q34:Nat:=qz 800
def q35:Nat:=qz 840
def q36:Nat:=qz 856
def q37:Nat:=qz 880
def q38:Nat:=qz 912
def q39:Nat:=qz 936
def q40:Nat:=qz 952
def q41:Nat:=qz 968
def q42:Nat:=qz 984
def q43:Nat:=qz 1024
def q44:Nat:=qz 1040
def q45:Nat:=qz 1056
def q46:Nat:=qz 1080
def q47:Nat:=qz 1112
def q48:Nat:=qz 1128
def q49:Nat:=qz 1144
def q50:Nat:=qz 1176
def q51:Nat:=qz 1192
def q52:Nat:=qz 1224
def q53:Nat:=qz 1240
def q54:Nat:=qz 1256
def q55:Nat:=qz 1272
def q56:Nat:=qz 1296
def q57:Nat:=qz 1328
def q58:Nat:=qz 1344
def q59:Nat:=qz 1360
def q60:Nat:=qz 1400
def q61:Nat:=qz 1416
def q62:Nat:=qz 1432
def q63:Nat:=qz 1456
def q64:Nat:=qz 1488
def q65:Nat:=qz 1504
def q66:Nat:=qz 1520
def q67:Nat:=qz 1536
def q68:Nat:=qz 1552
def q69:Nat:=qz 1568
def q70:Nat:=qz 1592
def q71:Nat:=qz 1608
def q72:Nat:=qz 1624
def q73:Nat:=qz 1656
def q74:Nat:=qz 1672
def q75:Nat:=qz 1704
def q76:Nat:=qz 1744
def q77:Nat:=qz 1760
def q78:Nat:=qz 1776
def q79:Nat:=qz 1800
def q80:Nat:=qz 1832
def q81:Nat:=qz 1848
def q82:Nat:=qz 1864
def q83:Nat:=qz 1912
def q84:Nat:=qz 1928
def q85:Nat:=qz 1952
def q86:Nat:=qz 1976
def q87:Nat:=qz 2008
def q88:Nat:=qz 2024
def q89:Nat:=qz 2040
def q90:Nat:=qz 2056
def q91:Nat:=qz 2072
def hb0:afp:= .cells 1 (lst [.iface 354 (.ptr 64 0)]) 228 false 0 0
def hb1:afp:= .cells 4 (lst [.acB,.acB,.acB,.acB]) 47 false 0 0
def hb2:afp:= .cells 2 (lst [iI 0,iI 0]) 193 false 0 0
def hb3:afp:= .cells 4 (lst [iI 0,iI 0,.str 0 0,iI 0]) 213 false 0 0
def hb4:afp:= .cells 1 (lst [.ptr 746 0]) 114 false 0 0
def hb5:afp:= .cells 2 (lst [.bool false,.bool true]) 4 true 1 0
def hb6:afp:= .cells 6 (lst [.str 3 q1,.str 4 q3,.acB,.str 4 q8,.str 4 q10,.slice 806 0 0 2 2]) 140 true 3 0
def hb7:afp:= .cells 1 (lst [.str 1 q18]) 9 true 1 0
def hb8:afp:= .cells 2 (lst [.str 1 q24,.bool true]) 153 true 2 0
def hb9:afp:= .cells 1 (lst [.str 2 15933]) 9 false 0 0
def byS:afp:= .cells 2 (lst [.str 1 q32,iI 0]) 217 false 0 0
def byU:afp:= .cells 2 (lst [.str 1 q35,iI 0]) 217 false 0 0
def byW:afp:= .cells 2 (lst [.str 0 0,iI 0]) 217 false 0 0
def byX:afp:= .cells 2 (lst [.str 1 q43,.str 1 q44]) 9 true 1 0
def hb14:afp:= .cells 2 (lst [.str 1 q53,iI 0]) 217 true 2 0
def byY:afp:= .cells 8 (lst [iI 5,.str 1 q57,.str 0 0,iI 0,iI 3,.slice 1014 0 0 1 1,.acB,.slice 1018 0 0 1 1]) 149 false 0 0
def hb16:afp:= .cells 2 (lst [.str 1 q61,iI 0]) 217 false 0 0
def bnP:afp:= .cells 5 (lst [.slice 2004 0 0 6 6,.slice 1934 0 0 6 6,.slice 1857 0 0 1 1,.slice 1999 0 0 1 1,iI 17]) 34 false 0 0
def aVQ:afp:= .cells 1 (lst [iI 0]) 3 true 1 0
def bcm:afp:= .cells 13 (lst [.bool false,iI 1,iI 0,.acB,iI 1,iI 0,.str 4 1936617283,.slice 2036 0 0 2 2,iI 0,iI 0,.str 0 0,.acB,.slice 1986 0 0 2 2]) 91 true 13 0
def bcn:afp:= .cells 13 (lst [.bool false,iI 1,iI 1,.acB,iI 1,iI 0,.str 4 1936617283,.slice 2054 0 0 2 2,iI 0,iI 0,.str 0 0,.acB,.slice 1965 0 0 2 2]) 91 true 13 0
def bcp:afp:= .cells 6 (lst [.bool true,.bool true,.bool true,.bool true,.bool true,.bool true]) 4 true 1 0
def bcq:afp:= .cells 13 (lst [.bool false,iI 1,iI 2,.acB,iI 1,iI 0,.str 3 7104846,.acB,iI 0,iI 0,.str 0 0,.acB,.acB]) 91 true 13 0
def bcr:afp:= .cells 26 (lst [.bool true,iI 2,iI 5,.slice 2062 0 0 1 1,iI 0,iI 0,.str 0 0,.acB,iI 0,iI 0,.str 0 0,.acB,.slice 1945 0 0 1 1,.bool false,iI 3,iI 5,.acB,iI 0,iI 0,.str 0 0,.acB,iI 0,iI 0,.str 0 0,.acB,.acB]) 91 true 13 0
def hb24:afp:= .cells 26 (lst [.bool true,iI 2,iI 4,.slice 2044 0 0 1 1,iI 0,iI 0,.str 0 0,.acB,iI 0,iI 4,.str 0 0,.acB,.slice 1913 0 0 1 1,.bool false,iI 3,iI 4,.acB,iI 0,iI 4,.str 0 0,.acB,iI 0,iI 0,.str 0 0,.acB,.acB]) 91 true 13 0
def bcs:afp:= .cells 13 (lst [.bool true,iI 0,iI 3,.acB,iI 0,iI 0,.str 0 0,.acB,iI 0,iI 7,.str 0 0,.acB,.slice 1881 0 0 1 1]) 91 true 13 0
def bcA:afp:= .cells 24 (lst [iI 1,iI 0,.str 4 1936617283,.slice 2008 0 0 2 2,iI 1,iI 0,.str 4 1936617283,.slice 2016 0 0 2 2,iI 1,iI 0,.str 3 7104846,.acB,iI 0,iI 7,.str 0 0,.acB,iI 0,iI 4,.str 0 0,.acB,iI 0,iI 0,.str 0 0,.acB]) 24 true 4 0
def aEs:afp:= .cells 8 (lst [iI 0,iI 3,.str 0 0,.acB,iI 2,iI 1,.str 0 0,.acB]) 24 true 4 0
def aEv:afp:= .cells 8 (lst [iI 0,iI 4,.str 0 0,.acB,iI 2,iI 2,.str 0 0,.acB]) 24 true 4 0
def aRa:afp:= .cells 4 (lst [iI 2,iI 1,.str 0 0,.acB]) 24 true 4 0
def aRj:afp:= .cells 4 (lst [iI 2,iI 2,.str 0 0,.acB]) 24 true 4 0
def bcC:afp:= .cells 88 (lst [iI 1,iI 0,iI 3,.acB,iI 0,iI 0,.str 0 0,.acB,iI 2,iI 1,iI 0,.acB,iI 1,iI 0,.str 4 1936617283,.slice 2185 0 0 2 2,iI 1,iI 2,iI 4,.slice 2192 0 0 1 1,iI 0,iI 0,.str 0 0,.acB,iI 2,iI 1,iI 1,.acB,iI 1,iI 0,.str 4 1936617283,.slice 2201 0 0 2 2,iI 1,iI 2,iI 5,.slice 2208 0 0 1 1,iI 0,iI 0,.str 0 0,.acB,iI 2,iI 1,iI 2,.acB,iI 1,iI 0,.str 3 7104846,.acB,iI 3,iI 0,iI 5,.acB,iI 0,iI 0,.str 0 0,.acB,iI 2,iI 3,iI 5,.acB,iI 0,iI 0,.str 0 0,.acB,iI 3,iI 0,iI 4,.acB,iI 0,iI 4,.str 0 0,.acB,iI 2,iI 3,iI 4,.acB,iI 0,iI 4,.str 0 0,.acB,iI 3,iI 0,iI 3,.acB,iI 0,iI 7,.str 0 0,.acB]) 109 true 8 0
def bnV:afp:= .cells 2 (lst [iI 3,iI 4]) 3 true 1 0
def bnW:afp:= .cells 2 (lst [iI 1,iI 5]) 3 true 1 0
def bnX:afp:= .cells 2 (lst [.slice 2301 0 0 1 1,.slice 2311 0 0 2 2]) 31 true 1 0
def a6f:afp:= .cells 1 (lst [iI 5]) 3 true 1 0
def bn0:afp:= .cells 3 (lst [.slice 2307 0 0 2 2,.slice 2319 0 0 1 1,.slice 2313 0 0 2 2]) 76 false 0 0
def bn3:afp:= .cells 1 (lst [iI 7]) 3 true 1 0
def bn6:afp:= .cells 4 (lst [iI 0,iI 1,iI 2,iI 5]) 3 true 1 0
def boa:afp:= .cells 4 (lst [iI 2,iI 5,iI 4,iI 3]) 3 true 1 0
def by2:afp:= .cells 88 (lst [iI 1,iI 0,iI 3,.acB,iI 0,iI 0,.str 0 0,.acB,iI 2,iI 1,iI 0,.acB,iI 1,iI 0,.str 4 1936617283,.slice 2036 0 0 2 2,iI 1,iI 2,iI 4,.slice 2044 0 0 1 1,iI 0,iI 0,.str 0 0,.acB,iI 2,iI 1,iI 1,.acB,iI 1,iI 0,.str 4 1936617283,.slice 2054 0 0 2 2,iI 1,iI 2,iI 5,.slice 2062 0 0 1 1,iI 0,iI 0,.str 0 0,.acB,iI 2,iI 1,iI 2,.acB,iI 1,iI 0,.str 3 7104846,.acB,iI 3,iI 0,iI 5,.acB,iI 0,iI 0,.str 0 0,.acB,iI 2,iI 3,iI 5,.acB,iI 0,iI 0,.str 0 0,.acB,iI 3,iI 0,iI 4,.acB,iI 0,iI 4,.str 0 0,.acB,iI 2,iI 3,iI 4,.acB,iI 0,iI 4,.str 0 0,.acB,iI 3,iI 0,iI 3,.acB,iI 0,iI 7,.str 0 0,.acB]) 109 true 8 0
def by4:afp:= .cells 3 (lst [.slice 2714 0 0 11 11,.map 2715,.slice 2776 0 0 11 11]) 98 false 0 0
def by9:afp:= .cells 4 (lst [iI 0,iI 10,.aqh,.slice 2770 0 0 2 2]) 175 false 0 0
def bzc:afp:= .cells 4 (lst [iI 2,iI 8,.ptr 2720 0,.slice 2760 0 0 2 2]) 175 false 0 0
def bzg:afp:= .cells 4 (lst [iI 4,iI 6,.ptr 2732 0,.slice 2750 0 0 1 1]) 175 false 0 0
def bzh:afp:= .cells 2 (lst [iI 3,iI 7]) 3 true 1 0
def bzk:afp:= .cells 2 (lst [iI 1,iI 9]) 3 true 1 0
def bzw:afp:= .cells 11 (lst [.ptr 2720 0,.ptr 2720 0,.ptr 2732 0,.ptr 2732 0,.ptr 2744 0,.ptr 2744 0,.ptr 2744 0,.ptr 2732 0,.ptr 2732 0,.ptr 2720 0,.ptr 2720 0]) 94 true 1 0
def hb48:afp:= .cells 4 (lst [iI 1,iI 0,.str 3 7104846,.acB]) 24 false 0 0
def H0:AH:=⟨trie [(0,hb0)],65⟩
def s0:AS:=match asY C 12 [] false 64 with|some fr=>⟨fr,[],H0⟩|none=>⟨⟨0,0,.E,[],[],.run,false,none,none,0⟩,[],H0⟩
def s1:AS:=
 ⟨⟨236,42,(trie [(0,.ptr 69 0),(1,iI 0),(2,.func 247 [] []),(6,iI 0),(7,iI 0),(8,.ptr 69 0),(9,.ptr 69 0),(10,.ptr 69 1),(11,iI 155),(12,iI 0),(13,iI 155),(14,iI 0),(15,iI 155),(16,.ptr 69 0),(17,.ptr 69 0),(18,.ptr 69 0),(19,.str 272 q0),(20,iI 272),(21,.bool true),(22,.bool true),(23,.func 247 [] []),(24,.ptr 69 0),(25,.ptr 69 0),(26,.ptr 69 0),(27,.str 272 q0),(28,.ptr 69 0),(29,.ptr 69 0),(30,.ptr 69 1),(31,iI 155),(32,iI 0),(33,iI 155),(34,iI 0),(35,iI 155),(36,.int .u8 116),(37,.bool true),(38,.bool true),(39,iI 0),(40,iI 1)]),[.afm (anc [1,1,0,0,0,1,0] 2 aKu.body),.inBlock 1,.inLoop (agq [1,1,0,0,0] aKu.body),.inBlock 0,.code (agq [1,1,1] aKu.body)],[],.run,false,none,none,450⟩,
 [⟨244,50,(trie [(0,.ptr 69 0),(1,iI 2),(4,.ptr 449 0),(12,.ptr 69 0)]),[.afm (anc [1,0] 3 aKw.body),.code (agq [1,1] aKw.body)],[],.run,false,none,none,449⟩,
 ⟨195,66,(trie [(0,.ptr 69 0),(2,.ptr 448 0),(18,.ptr 69 0)]),[.afm (anc [1,1,0,0,1,1,1,0,0] 1 aCf.body),.code (agq [1,1,0,0,1,0,1] aCf.body),.inBlock 0,.code (agq [1,1,1] aCf.body)],[],.run,false,none,none,448⟩,
 ⟨193,38,(trie [(0,.yld 72),(1,.ptr 70 0),(3,.ptr 444 0),(6,.ptr 69 0),(7,.ptr 69 0),(8,.ptr 69 0),(9,.ptr 69 1),(10,iI 155),(11,.ptr 69 0),(12,.ptr 69 0),(13,.ptr 69 0),(14,.ptr 69 0),(15,.str 272 q0),(16,iI 272),(17,.bool true),(18,.ptr 69 0),(20,.ptr 69 0),(21,.agg [iI 6,iI 0,.str 1 q52,iI 153]),(22,.ptr 69 0),(23,.ptr 69 0),(24,.ptr 69 0),(25,.ptr 69 1),(26,iI 153),(27,.ptr 444 2),(28,.str 1 q52),(29,iI 1),(30,iI 154),(31,.ptr 69 0),(32,.ptr 69 0),(33,.ptr 69 1),(34,.yld 72),(35,.agg [iI 6,iI 0,.str 1 q52,iI 153]),(36,.bool true),(37,.bool false)]),[.afm (anc [1,0,0,1,0,0,0] 1 avC.body),.code (agq [1,0,0,1,0,0,1] avC.body),.inBlock 1,.code (agq [1,0,0,1,1] avC.body),.inLoop (agq [1,0,0] avC.body),.inBlock 0],[],.run,false,none,none,73⟩,
 ⟨99,19,(trie [(2,.ptr 69 0),(3,.ptr 66 0),(4,.ptr 67 0)]),[.inRange 72,.inBlock 0,.code (agq [1,1,1,1] aRl.body)],[.mark 71,.call (.func 148 [] [.ptr 66 0,.ptr 67 0]) []],.run,false,none,none,66⟩,
 ⟨54,22,(trie [(2,.acB),(3,iI 0),(4,iI 0),(12,.str 272 q0)]),[.afm (anc [1,1,0] 1 bcE.body),.code (agq [1,1,1] bcE.body)],[],.run,false,none,none,66⟩,
 ⟨17,42,(trie [(0,.str 272 q0),(2,.ptr 65 0),(3,iI 0),(4,iI 0),(12,.str 272 q0)]),[.afm (anc [1,0] 1 aRm.body),.code (agq [1,1] aRm.body)],[],.run,false,none,none,65⟩,
 ⟨12,166,(trie [(0,.bool false),(24,.str 272 q0)]),[.afm (anc [1,0] 1 aww.body),.code (agq [1,1] aww.body)],[],.run,false,none,none,64⟩],
 ⟨trie [(0,hb0),
 (65,hb1),
 (66,.cells 1 (lst [.slice 447 0 0 53 53]) 111 false 0 0),
 (67,hb2),
 (68,.map [(.str 3 6581857,iI 5),(.str 4 1702060387,iI 5),(.str 4 1635017060,iI 5),(.str 4 1702063205,iI 5),(.str 3 6581861,iI 5),(.str 2 28262,iI 5),(.str 3 7239014,iI 5),(.str 2 26217,iI 5),(.str 2 28265,iI 5),(.str 5 500186508905,iI 5),(.str 3 7628140,iI 5),(.str 2 26223,iI 5),(.str 6 128047746676079,iI 5),(.str 4 1852139636,iI 5),(.str 3 7102838,iI 5)]),
 (69,.cells 4 (lst [.str 272 q0,iI 155,.map 68,.acB]) 286 false 0 0),
 (70,.cells 1 (lst [.ptr 69 0]) 191 false 0 0),
 (71,.dfd true),
 (72,.loop (trie [(3,.ptr 66 0)]) 19 99 [11] (agq [1,1,1,0,1,0,0] aRl.body) (agq [1,1,1,0,1,0,1] aRl.body) 0 none 71),
 (444,.cells 4 (lst [iI 6,iI 0,.str 1 q52,iI 153]) 213 false 0 0),
 (447,.cells 212 (lst [iI 5,iI 0,.str 4 q0,iI 0,iI 3,iI 0,.str 3 q1,iI 5,iI 6,iI 0,.str 1 q2,iI 9,iI 3,iI 0,.str 4 q3,iI 11,iI 6,iI 0,.str 1 q4,iI 16,iI 6,iI 0,.str 1 q5,iI 18,iI 6,iI 0,.str 1 q6,iI 20,iI 5,iI 0,.str 4 q7,iI 22,iI 3,iI 0,.str 4 q8,iI 27,iI 6,iI 0,.str 1 q9,iI 32,iI 3,iI 0,.str 4 q10,iI 34,iI 6,iI 0,.str 1 q11,iI 39,iI 6,iI 0,.str 1 q12,iI 41,iI 6,iI 0,.str 1 q13,iI 43,iI 6,iI 0,.str 1 q14,iI 45,iI 6,iI 0,.str 1 q15,iI 47,iI 6,iI 0,.str 1 q16,iI 49,iI 5,iI 0,.str 5 q17,iI 51,iI 2,iI 0,.str 1 q18,iI 57,iI 6,iI 0,.str 1 q19,iI 59,iI 5,iI 0,.str 3 q20,iI 61,iI 2,iI 0,.str 3 q21,iI 65,iI 6,iI 0,.str 1 q22,iI 69,iI 6,iI 0,.str 1 q23,iI 71,iI 2,iI 0,.str 1 q24,iI 73,iI 6,iI 0,.str 1 q25,iI 75,iI 6,iI 0,.str 2 q26,iI 77,iI 5,iI 0,.str 3 q27,iI 80,iI 2,iI 0,.str 1 q28,iI 84,iI 6,iI 0,.str 1 q29,iI 86,iI 2,iI 0,.str 4 q30,iI 88,iI 1,iI 1,.str 1 q31,iI 93,iI 2,iI 0,.str 1 q32,iI 95,iI 5,iI 0,.str 2 q33,iI 97,iI 5,iI 0,.str 4 q34,iI 100,iI 2,iI 0,.str 1 q35,iI 105,iI 5,iI 0,.str 2 q36,iI 107,iI 3,iI 0,.str 3 q37,iI 110,iI 6,iI 0,.str 2 q38,iI 114,iI 6,iI 0,.str 1 q39,iI 117,iI 1,iI 0,.str 1 q40,iI 119,iI 6,iI 0,.str 1 q41,iI 121,iI 3,iI 0,.str 4 q42,iI 123,iI 2,iI 0,.str 1 q43,iI 128,iI 2,iI 0,.str 1 q44,iI 130,iI 6,iI 0,.str 2 q45,iI 132,iI 5,iI 0,.str 3 q46,iI 135,iI 2,iI 0,.str 1 q47,iI 139,iI 6,iI 0,.str 1 q48,iI 141,iI 2,iI 0,.str 3 q49,iI 143,iI 1,iI 2,.str 1 q50,iI 147,iI 2,iI 0,.str 3 q51,iI 149,iI 6,iI 0,.str 1 q52,iI 153]) 213 true 4 0),
 (448,hb3),
 (449,hb3)],450⟩⟩
def s2:AS:=
 ⟨⟨152,146,(trie [(0,.ptr 746 0),(1,.ptr 1018 0),(5,.ptr 1036 0),(6,.ptr 1038 0),(124,.ptr 746 0)]),[.afm (anc [1,1,1,0,1,1,1,1,1,1,1,0,0] 1 aXM.body),.code (agq [1,1,1,0,1,1,1,1,1,1,1,0,1] aXM.body),.inBlock 1],[],.run,false,none,none,1027⟩,
 [⟨109,155,(trie [(0,.ptr 746 0),(1,.ptr 1018 0),(2,iI 5),(7,iI 4),(8,iI 5),(9,iI 5),(10,.bool false),(13,.ptr 746 0),(14,.bool true),(15,.bool false),(16,.ptr 1018 0),(17,.ptr 746 0),(18,.str 1 q64),(19,.ptr 1018 0),(20,.ptr 1018 1),(21,.ptr 746 0),(22,.slice 1024 0 0 1 1),(24,.ptr 746 0),(25,.ptr 1018 0),(27,.ptr 746 0),(28,.slice 1015 0 0 1 1),(30,.ptr 987 0),(31,.slice 1018 0 0 1 1),(32,.ptr 987 0),(33,.ptr 987 7),(34,.ptr 987 0),(35,.ptr 987 0),(36,.ptr 987 7),(37,.slice 1018 0 0 1 1),(38,.ptr 1018 0)]),[.afm (anc [0,0,0,0,0,1,1,1,1,0] 2 as1.body),.code (agq [0,0,0,0,0,1,1,1,1,1] as1.body),.inBlock 1,.code (agq [0,0,0,1] as1.body),.inLoop (agq [0,0,0] as1.body),.inBlock 0,.code (agq [1] as1.body)],[],.run,false,none,none,942⟩,
 ⟨109,155,(trie [(0,.ptr 746 0),(1,.ptr 883 0),(2,iI 2),(6,.ptr 925 0),(57,.ptr 883 0),(58,.ptr 883 0),(59,.ptr 883 6),(60,.slice 919 0 0 1 1),(61,iI 1),(62,.bool false),(63,.bool false),(64,.ptr 746 0),(65,.bool true),(66,.bool true),(67,.ptr 746 0),(68,.str 4 q42),(69,.agg [.str 4 q42,.acB,iI 0,.str 0 0,.str 0 0,iI 0,iI 0,.acB,.acB,.acB]),(70,.ptr 746 0),(71,.agg [iI 6,iI 0,.str 2 q45,iI 132]),(72,iI 6),(73,.bool false),(74,.ptr 925 1),(75,.slice 931 0 0 1 1),(76,.ptr 746 0),(77,.str 1 q44),(78,.slice 936 0 0 1 1),(79,.slice 937 0 0 2 2),(80,.ptr 925 1),(81,.ptr 746 0),(82,.slice 939 0 0 1 1),(84,.ptr 746 0),(85,.ptr 925 2),(86,iI 2),(87,iI 3),(89,.ptr 917 0)]),[.afm (anc [1,0,1,0,1,1,0,0,0,1,0,1,1,1,0] 4 as1.body),.code (agq [1,0,1,0,1,1,0,0,0,1,0,1,1,1,1] as1.body),.inBlock 4,.inLoop (agq [1,0,1,0,1,1,0,0,0] as1.body),.inBlock 3,.code (agq [1,0,1,0,1,1,1] as1.body),.inBlock 2],[],.run,false,none,none,853⟩,
 ⟨57,103,(trie [(1,.ptr 749 0),(2,.ptr 750 0),(3,.ptr 751 0),(5,.ptr 832 0),(41,.ptr 746 0),(42,.bool true),(43,.bool true),(44,.tup []),(45,.tup []),(46,.bool true),(47,.ptr 746 0),(48,.bool true),(49,.agg [.str 0 0,.bool true,.acB,iI 0,.str 0 0,.str 0 0,iI 0,iI 0,.acB,.acB,.acB]),(50,.ptr 746 0),(51,.ptr 746 0),(52,.ptr 746 2),(53,iI 20),(54,iI 21),(55,.ptr 746 0),(56,.ptr 746 2),(57,.ptr 746 0),(58,.str 3 q21),(59,.ptr 832 0),(60,.ptr 746 0),(61,.func 108 [] [.ptr 749 0,.ptr 832 0]),(63,.ptr 746 0),(64,.slice 850 0 0 1 1),(66,.ptr 746 0),(67,.ptr 832 3)]),[.afm (anc [1,1,1,1,0,0,0,1,0,1,1,1,1,1,0] 2 a04.body),.code (agq [1,1,1,1,0,0,0,1,0,1,1,1,1,1,1] a04.body),.inBlock 5,.inLoop (agq [1,1,1,1,0,0,0] a04.body),.inBlock 4,.code (agq [1,1,1,1,1] a04.body)],[],.run,false,none,none,749⟩,
 ⟨56,4,(trie [(1,.ptr 745 0),(2,.ptr 746 0)]),[.afm (anc [] 1 boc.body)],[],.run,false,none,none,749⟩,
 ⟨55,7,(trie [(2,.ptr 748 0),(4,.func 56 [] [.ptr 747 0,.ptr 745 0])]),[.afm (anc [1,1,0] 1 bcF.body),.code (agq [1,1,1] bcF.body)],[.call (.func 100 [] [.ptr 748 0]) []],.run,false,none,none,748⟩,
 ⟨17,42,(trie [(2,.ptr 65 0),(3,iI 0),(4,iI 0),(8,.ptr 745 0),(27,.func 56 [] [.ptr 747 0,.ptr 745 0])]),[.afm (anc [1,1,1,1,1,0,0] 1 aRm.body),.code (agq [1,1,1,1,1,0,1] aRm.body),.code (agq [1,1,1,1,1,1] aRm.body)],[],.run,false,none,none,65⟩,
 ⟨12,166,(trie [(0,.bool false),(24,.str 272 q0)]),[.afm (anc [1,0] 1 aww.body),.code (agq [1,1] aww.body)],[],.run,false,none,none,64⟩],
 ⟨trie [(0,hb0),
 (65,hb1),
 (743,.cells 376 (lst [iI 5,iI 0,.str 4 q0,iI 0,iI 3,iI 0,.str 3 q1,iI 5,iI 6,iI 0,.str 1 q2,iI 9,iI 3,iI 0,.str 4 q3,iI 11,iI 6,iI 0,.str 1 q4,iI 16,iI 6,iI 0,.str 1 q5,iI 18,iI 6,iI 0,.str 1 q6,iI 20,iI 5,iI 0,.str 4 q7,iI 22,iI 3,iI 0,.str 4 q8,iI 27,iI 6,iI 0,.str 1 q9,iI 32,iI 3,iI 0,.str 4 q10,iI 34,iI 6,iI 0,.str 1 q11,iI 39,iI 6,iI 0,.str 1 q12,iI 41,iI 6,iI 0,.str 1 q13,iI 43,iI 6,iI 0,.str 1 q14,iI 45,iI 6,iI 0,.str 1 q15,iI 47,iI 6,iI 0,.str 1 q16,iI 49,iI 5,iI 0,.str 5 q17,iI 51,iI 2,iI 0,.str 1 q18,iI 57,iI 6,iI 0,.str 1 q19,iI 59,iI 5,iI 0,.str 3 q20,iI 61,iI 2,iI 0,.str 3 q21,iI 65,iI 6,iI 0,.str 1 q22,iI 69,iI 6,iI 0,.str 1 q23,iI 71,iI 2,iI 0,.str 1 q24,iI 73,iI 6,iI 0,.str 1 q25,iI 75,iI 6,iI 0,.str 2 q26,iI 77,iI 5,iI 0,.str 3 q27,iI 80,iI 2,iI 0,.str 1 q28,iI 84,iI 6,iI 0,.str 1 q29,iI 86,iI 2,iI 0,.str 4 q30,iI 88,iI 1,iI 1,.str 1 q31,iI 93,iI 2,iI 0,.str 1 q32,iI 95,iI 5,iI 0,.str 2 q33,iI 97,iI 5,iI 0,.str 4 q34,iI 100,iI 2,iI 0,.str 1 q35,iI 105,iI 5,iI 0,.str 2 q36,iI 107,iI 3,iI 0,.str 3 q37,iI 110,iI 6,iI 0,.str 2 q38,iI 114,iI 6,iI 0,.str 1 q39,iI 117,iI 1,iI 0,.str 1 q40,iI 119,iI 6,iI 0,.str 1 q41,iI 121,iI 3,iI 0,.str 4 q42,iI 123,iI 2,iI 0,.str 1 q43,iI 128,iI 2,iI 0,.str 1 q44,iI 130,iI 6,iI 0,.str 2 q45,iI 132,iI 5,iI 0,.str 3 q46,iI 135,iI 2,iI 0,.str 1 q47,iI 139,iI 6,iI 0,.str 1 q48,iI 141,iI 2,iI 0,.str 3 q49,iI 143,iI 1,iI 2,.str 1 q50,iI 147,iI 2,iI 0,.str 3 q51,iI 149,iI 6,iI 0,.str 1 q52,iI 153,iI 2,iI 0,.str 1 q53,iI 155,iI 6,iI 0,.str 1 q54,iI 157,iI 5,iI 0,.str 2 q55,iI 159,iI 5,iI 0,.str 3 q56,iI 162,iI 2,iI 0,.str 1 q57,iI 166,iI 6,iI 0,.str 1 q58,iI 168,iI 2,iI 0,.str 4 q59,iI 170,iI 1,iI 3,.str 1 q60,iI 175,iI 2,iI 0,.str 1 q61,iI 177,iI 5,iI 0,.str 2 q62,iI 179,iI 5,iI 0,.str 3 q63,iI 182,iI 2,iI 0,.str 1 q64,iI 186,iI 6,iI 0,.str 1 q65,iI 188,iI 2,iI 0,.str 1 q66,iI 190,iI 6,iI 0,.str 1 q67,iI 192,iI 2,iI 0,.str 1 q68,iI 194,iI 5,iI 0,.str 2 q69,iI 196,iI 6,iI 0,.str 1 q70,iI 199,iI 2,iI 0,.str 1 q71,iI 201,iI 5,iI 0,.str 3 q72,iI 203,iI 6,iI 0,.str 1 q73,iI 207,iI 5,iI 0,.str 3 q74,iI 209,iI 2,iI 0,.str 4 q75,iI 213,iI 6,iI 0,.str 1 q76,iI 218,iI 6,iI 0,.str 1 q77,iI 220,iI 6,iI 0,.str 2 q78,iI 222,iI 5,iI 0,.str 3 q79,iI 225,iI 2,iI 0,.str 1 q80,iI 229,iI 6,iI 0,.str 1 q81,iI 231,iI 5,iI 0,.str 5 q82,iI 233,iI 1,iI 0,.str 1 q83,iI 239,iI 5,iI 0,.str 2 q84,iI 241,iI 6,iI 0,.str 2 q85,iI 244,iI 2,iI 0,.str 3 q86,iI 247,iI 6,iI 0,.str 1 q87,iI 251,iI 2,iI 0,.str 1 q88,iI 253,iI 6,iI 0,.str 1 q89,iI 255,iI 6,iI 0,.str 1 q90,iI 257,iI 5,iI 0,.str 6 q91,iI 259,iI 2,iI 0,.str 4 65010477392237,iI 266,iI 6,iI 0,.str 1 59,iI 271]) 213 true 4 0),
 (745,hb1),
 (746,.cells 3 (lst [.slice 743 0 0 94 94,iI 272,iI 67]) 116 false 0 0),
 (747,hb4),
 (748,.cells 2 (lst [iI 0,iI 0]) 118 false 0 0),
 (749,hb4),
 (750,hb1),
 (751,.cells 4 (lst [.slice 813 0 0 2 2,.slice 822 0 0 1 1,.acB,.acB]) 47 false 0 0),
 (806,hb5),
 (813,hb6),
 (822,hb7),
 (832,.cells 11 (lst [.str 3 q21,.bool true,.slice 847 0 0 1 1,iI 5,.str 1 q28,.str 0 0,iI 0,iI 1,.slice 879 0 0 1 1,.acB,.slice 883 0 0 1 1]) 151 false 0 0),
 (847,hb8),
 (850,hb9),
 (879,byS),
 (883,.cells 8 (lst [iI 7,.str 0 0,.str 0 0,iI 0,iI 0,.slice 891 0 0 1 1,.slice 919 0 0 1 1,.acB]) 149 false 0 0),
 (891,byU),
 (916,byW),
 (917,.cells 1 (lst []) 4 false 0 0),
 (919,.cells 10 (lst [.str 3 q37,.acB,iI 9,.str 0 0,.str 0 0,iI 0,iI 0,.slice 916 0 0 1 1,.acB,.acB]) 219 true 10 0),
 (925,.cells 10 (lst [.str 4 q42,.slice 937 0 0 2 2,iI 4,.str 1 q47,.str 3 q51,iI 0,iI 2,.slice 981 0 0 1 1,.acB,.slice 987 0 0 1 1]) 219 false 0 0),
 (936,.cells 1 (lst [.str 1 q44]) 9 false 0 0),
 (937,byX),
 (939,hb9),
 (981,hb14),
 (987,byY),
 (1014,hb16),
 (1015,.cells 1 (lst [.str 2 28265]) 9 false 0 0),
 (1018,.cells 8 (lst [iI 0,.str 1 q64,.str 0 0,iI 0,iI 0,.acB,.acB,.acB]) 149 false 0 0),
 (1024,.cells 1 (lst [.str 1 61]) 9 false 0 0),
 (1036,.cells 2 (lst [.str 1 q66,iI 0]) 217 false 0 0),
 (1038,.cells 4 (lst [iI 6,iI 0,.str 1 q67,iI 192]) 213 false 0 0)],1042⟩⟩
def s3:AS:=
 ⟨⟨17,42,(trie [(2,.ptr 65 0),(3,iI 0),(4,iI 0)]),[.code (agq [1,1,0,1,0,1] aRm.body)],[],.run,false,none,none,65⟩,
 [⟨12,166,(trie [(0,.bool false),(24,.str 272 q0)]),[.afm (anc [1,0] 1 aww.body),.code (agq [1,1] aww.body)],[],.run,false,none,none,64⟩],
 ⟨trie [(0,hb0),
 (65,.cells 4 (lst [.slice 813 0 0 2 2,.slice 822 0 0 1 1,.slice 1147 0 0 2 2,.slice 1158 0 0 1 1]) 47 false 0 0),
 (806,hb5),
 (813,hb6),
 (822,hb7),
 (847,hb8),
 (879,byS),
 (883,.cells 8 (lst [iI 7,.str 0 0,.str 0 0,iI 0,iI 0,.slice 891 0 0 1 1,.slice 1068 0 0 2 2,.acB]) 149 false 0 0),
 (891,byU),
 (916,byW),
 (937,byX),
 (981,hb14),
 (987,byY),
 (1014,hb16),
 (1018,.cells 8 (lst [iI 1,.str 1 q64,.str 1 q67,iI 0,iI 0,.slice 1047 0 0 2 2,.acB,.slice 1051 0 0 1 1]) 149 false 0 0),
 (1047,.cells 4 (lst [.str 1 q66,iI 0,.str 1 q68,iI 0]) 217 false 0 0),
 (1051,.cells 8 (lst [iI 9,.str 0 0,.str 0 0,iI 0,iI 0,.slice 1065 0 0 1 1,.acB,.acB]) 149 false 0 0),
 (1065,.cells 2 (lst [.str 1 q71,iI 0]) 217 false 0 0),
 (1068,.cells 20 (lst [.str 3 q37,.acB,iI 9,.str 0 0,.str 0 0,iI 0,iI 0,.slice 916 0 0 1 1,.acB,.acB,.str 4 q42,.slice 937 0 0 2 2,iI 4,.str 1 q47,.str 3 q51,iI 0,iI 2,.slice 981 0 0 1 1,.acB,.slice 987 0 0 1 1]) 219 true 10 0),
 (1113,.cells 8 (lst [iI 10,.str 0 0,.str 3 q86,iI 0,iI 0,.slice 1140 0 0 1 1,.acB,.acB]) 149 false 0 0),
 (1140,.cells 2 (lst [.str 1 q88,iI 0]) 217 true 2 0),
 (1147,.cells 22 (lst [.str 3 q21,.bool true,.slice 847 0 0 1 1,iI 5,.str 1 q28,.str 0 0,iI 0,iI 1,.slice 879 0 0 1 1,.acB,.slice 883 0 0 1 1,.str 4 q75,.bool true,.acB,iI 6,.str 1 q80,.str 0 0,iI 0,iI 0,.acB,.acB,.slice 1113 0 0 1 1]) 151 true 11 0),
 (1158,.cells 1 (lst [.str 4 65010477392237]) 9 true 1 0)],1487⟩⟩
def s4:AS:=
 ⟨⟨33,44,(trie [(2,.acB),(3,iI 0),(4,.slice 2115 0 0 11 11),(6,iI 5),(7,.ptr 2213 0),(21,.slice 2115 0 0 11 11),(22,iI 11),(23,iI 5),(24,.bool true),(25,iI 5),(26,.ptr 2115 40),(27,.agg [iI 2,iI 1,iI 2,.acB,iI 1,iI 0,.str 3 7104846,.acB]),(28,.slice 2115 0 0 11 11),(29,iI 4),(30,.slice 2115 0 0 11 11),(31,iI 4),(32,.ptr 2206 3),(33,.slice 2062 0 0 1 1),(34,.slice 2208 0 0 1 1),(35,.ptr 2206 4),(36,.agg [iI 0,iI 0,.str 0 0,.acB]),(37,.agg [iI 0,iI 0,.str 0 0,.acB]),(38,.ptr 2115 32),(39,.ptr 2115 35),(40,.ptr 2115 32),(41,.ptr 2115 36),(42,iI 5)]),[.afm (anc [1,1,1,0,1,0,0,1,1,0,0,0] 5 aVR.body),.code (agq [1,1,1,0,1,0,0,1,1,0,0,1] aVR.body),.inBlock 1,.code (agq [1,1,1,0,1,0,0,1,1,1] aVR.body),.inLoop (agq [1,1,1,0,1,0,0] aVR.body),.inBlock 0,.code (agq [1,1,1,1] aVR.body)],[],.run,false,none,none,2081⟩,
 [⟨12,166,(trie [(0,.bool false),(4,.ptr 1489 0),(44,.agg [.slice 2004 0 0 6 6,.slice 1934 0 0 6 6,.slice 1857 0 0 1 1,.slice 1999 0 0 1 1,iI 17])]),[.afm (anc [1,1,1,1,0] 1 aww.body),.code (agq [1,1,1,1,1] aww.body)],[],.run,false,none,none,64⟩],
 ⟨trie [(0,hb0),
 (1489,bnP),
 (1857,aVQ),
 (1881,bcm),
 (1913,bcn),
 (1934,bcp),
 (1945,bcq),
 (1965,bcr),
 (1986,hb24),
 (1999,bcs),
 (2004,bcA),
 (2008,aEs),
 (2016,aEv),
 (2036,aEs),
 (2044,aRa),
 (2054,aEv),
 (2062,aRj),
 (2115,bcC),
 (2185,aEs),
 (2192,aRa),
 (2201,aEv),
 (2206,.cells 8 (lst [iI 1,iI 2,iI 5,.slice 2062 0 0 1 1,iI 0,iI 0,.str 0 0,.acB]) 109 false 0 0),
 (2208,aRj),
 (2213,.cells 8 (lst [iI 0,iI 0,iI 0,.acB,iI 0,iI 0,.str 0 0,.acB]) 109 false 0 0)],2214⟩⟩
def s5:AS:=
 ⟨⟨236,42,(trie [(0,.ptr 2834 0),(1,iI 0),(2,.func 247 [] []),(6,iI 0)]),[.afm [],.code (agq [1] aKu.body)],[],.run,false,none,none,2840⟩,
 [⟨244,50,(trie [(0,.ptr 2834 0),(1,iI 3),(4,.ptr 2839 0),(12,.ptr 2834 0)]),[.afm (anc [1,0] 3 aKw.body),.code (agq [1,1] aKw.body)],[],.run,false,none,none,2839⟩,
 ⟨195,66,(trie [(0,.ptr 2834 0),(2,.ptr 2838 0),(23,.ptr 2834 0)]),[.afm (anc [1,1,0,0,1,1,1,1,1,0,0] 1 aCf.body),.code (agq [1,1,0,0,1,0,1] aCf.body),.inBlock 0,.code (agq [1,1,1] aCf.body)],[],.run,false,none,none,2838⟩,
 ⟨193,38,(trie [(0,.yld 2837),(1,.ptr 2835 0),(6,.ptr 2834 0),(7,.ptr 2834 0),(8,.ptr 2834 0),(9,.ptr 2834 1),(10,iI 0),(11,.ptr 2834 0),(12,.ptr 2834 0),(13,.ptr 2834 0),(14,.ptr 2834 0),(15,.str 3 7104846),(16,iI 3),(17,.bool true),(20,.ptr 2834 0)]),[.afm (anc [1,0,0,1,0,0,0] 1 avC.body),.code (agq [1,0,0,1,0,0,1] avC.body),.inBlock 1,.code (agq [1,0,0,1,1] avC.body),.inLoop (agq [1,0,0] avC.body),.inBlock 0],[],.run,false,none,none,2838⟩,
 ⟨99,19,(trie [(2,.ptr 2834 0),(3,.ptr 2831 0),(4,.ptr 2832 0)]),[.inRange 2837,.inBlock 0,.code (agq [1,1,1,1] aRl.body)],[.mark 2836,.call (.func 148 [] [.ptr 2831 0,.ptr 2832 0]) []],.run,false,none,none,2831⟩,
 ⟨124,35,(trie [(0,.str 3 7104846),(2,iI 0),(10,.str 3 7104846)]),[.afm (anc [1,1,0] 1 aXQ.body),.code (agq [1,1,1] aXQ.body)],[],.run,false,none,none,2831⟩,
 ⟨77,6,(trie [(2,.bool false),(3,.str 3 7104846)]),[.afm (anc [1,0] 1 bcI.body),.code (agq [1,1] bcI.body)],[],.run,false,none,none,2831⟩,
 ⟨27,108,(trie [(0,.ptr 2829 0),(1,.ptr 2830 0),(4,.bool false),(82,.bool false),(86,.str 3 7104846)]),[.afm (anc [1,1,0,0,1,1,1,1,1,1,0] 25 a6g.body),.code (agq [1,1,0,0,1,1,1,1,1,1,1] a6g.body),.inBlock 0,.code (agq [1,1,1] a6g.body)],[],.run,false,none,none,2831⟩,
 ⟨6,6,(trie [(1,.ptr 2829 0),(2,iI 0),(3,.ptr 2830 0)]),[.afm (anc [1,0,1,0] 0 pf6.body),.code (agq [1,0,1,1] pf6.body),.code (agq [1,1] pf6.body)],[],.run,false,none,none,2829⟩,
 ⟨42,29,(trie [(1,.ptr 2777 0),(2,.bool false),(3,.ptr 2778 0),(4,.ptr 2779 0),(6,.ptr 2828 0),(10,.slice 2004 0 0 6 6),(11,iI 6),(12,iI 2),(13,.bool true),(14,.ptr 2004 8),(15,.agg [iI 1,iI 0,.str 3 7104846,.acB]),(16,.agg [iI 1,iI 0,.str 3 7104846,.acB]),(17,iI 0),(18,.bool false),(19,.agg [iI 1,iI 0,.str 4 1936617283,.slice 2016 0 0 2 2]),(20,.func 91 [] [.ptr 2778 0,.ptr 2777 0]),(22,iI 2)]),[.afm (anc [1,1,1,0,1,0,0,1,1,0,0,1,0,0] 1 aRn.body),.code (agq [1,1,1,0,1,0,0,1,1,0,0,1,0,1] aRn.body),.code (agq [1,1,1,0,1,0,0,1,1,0,0,1,1] aRn.body),.inBlock 1,.code (agq [1,1,1,0,1,0,0,1,1,1] aRn.body),.inLoop (agq [1,1,1,0,1,0,0] aRn.body),.inBlock 0,.code (agq [1,1,1,1] aRn.body)],[],.run,false,none,none,2777⟩,
 ⟨14,90,(trie [(1,iI 0),(2,.ptr 2680 0),(4,.acB),(5,iI 0),(8,.ptr 2716 0),(28,.bool false),(29,.agg [.slice 2004 0 0 6 6,.slice 1934 0 0 6 6,.slice 1857 0 0 1 1,.slice 1999 0 0 1 1,iI 17])]),[.afm (anc [1,1,1,1,0,0,0] 4 aNl.body),.code (agq [1,1,1,1,0,0,1] aNl.body),.inBlock 0,.code (agq [1,1,1,1,1] aNl.body)],[],.run,false,none,none,2680⟩,
 ⟨12,166,(trie [(0,.bool false),(6,.slice 2115 0 0 11 11),(7,iI 0),(8,.ptr 2321 0),(9,iI 0),(10,iI 2),(11,iI 8),(12,iI 0),(13,.slice 2461 0 0 1 1),(14,iI 0),(15,.slice 2567 0 0 4 4),(16,iI 0),(17,.slice 2679 0 0 4 4),(18,iI 0),(75,.agg [.slice 2004 0 0 6 6,.slice 1934 0 0 6 6,.slice 1857 0 0 1 1,.slice 1999 0 0 1 1,iI 17])]),[.afm (anc [1,1,1,1,1,1,1,1,1,1,0] 1 aww.body),.code (agq [1,1,1,1,1,1,1,1,1,1,1] aww.body)],[],.run,false,none,none,64⟩],
 ⟨trie [(0,hb0),
 (1857,aVQ),
 (1881,bcm),
 (1913,bcn),
 (1934,bcp),
 (1945,bcq),
 (1965,bcr),
 (1986,hb24),
 (1999,bcs),
 (2004,bcA),
 (2008,aEs),
 (2016,aEv),
 (2036,aEs),
 (2044,aRa),
 (2054,aEv),
 (2062,aRj),
 (2115,bcC),
 (2185,aEs),
 (2192,aRa),
 (2201,aEv),
 (2208,aRj),
 (2301,aVQ),
 (2307,bnV),
 (2311,bnW),
 (2313,bnX),
 (2319,a6f),
 (2321,bn0),
 (2461,bn3),
 (2567,bn6),
 (2679,boa),
 (2680,bnP),
 (2714,by2),
 (2715,.map [(iI 3,.ptr 2720 0),(iI 4,.ptr 2732 0),(iI 5,.ptr 2744 0)]),
 (2716,by4),
 (2720,by9),
 (2732,bzc),
 (2744,bzg),
 (2750,a6f),
 (2760,bzh),
 (2770,bzk),
 (2776,bzw),
 (2777,bnP),
 (2778,.cells 1 (lst [.bool true]) 4 false 0 0),
 (2779,.cells 1 (lst [.func 91 [] [.ptr 2778 0,.ptr 2777 0]]) 89 false 0 0),
 (2828,hb48),
 (2829,hb48),
 (2830,.cells 1 (lst [iI 1]) 3 false 0 0),
 (2831,.cells 1 (lst [.acB]) 111 false 0 0),
 (2832,hb2),
 (2833,.map [(.str 3 6581857,iI 5),(.str 4 1702060387,iI 5),(.str 4 1635017060,iI 5),(.str 4 1702063205,iI 5),(.str 3 6581861,iI 5),(.str 2 28262,iI 5),(.str 3 7239014,iI 5),(.str 2 26217,iI 5),(.str 2 28265,iI 5),(.str 5 500186508905,iI 5),(.str 3 7628140,iI 5),(.str 2 26223,iI 5),(.str 6 128047746676079,iI 5),(.str 4 1852139636,iI 5),(.str 3 7102838,iI 5)]),
 (2834,.cells 4 (lst [.str 3 7104846,iI 0,.map 2833,.acB]) 286 false 0 0),
 (2835,.cells 1 (lst [.ptr 2834 0]) 191 false 0 0),
 (2836,.dfd true),
 (2837,.loop (trie [(3,.ptr 2831 0)]) 19 99 [11] (agq [1,1,1,0,1,0,0] aRl.body) (agq [1,1,1,0,1,0,1] aRl.body) 0 none 2836),
 (2838,hb3),
 (2839,hb3)],2840⟩⟩
def s6:AS:=
 ⟨⟨45,39,(trie [(4,.aqk),(5,.ptr 2905 0),(7,.ptr 2910 0),(10,.func 94 [] [.ptr 2903 0,.ptr 2907 0,.ptr 2905 0,.ptr 2910 0]),(11,iI 2),(27,.slice 2939 0 0 1 1),(28,iI 1),(29,.bool true),(30,.slice 2939 0 0 1 1),(31,.ptr 2939 0),(32,iI 2),(33,.slice 2939 0 0 1 1),(34,.slice 2939 1 0 0 0),(35,.func 94 [] [.ptr 2903 0,.ptr 2907 0,.ptr 2905 0,.ptr 2910 0]),(36,iI 2)]),[.afm (anc [1,1,1,1,1,1,0,0,0,0,0] 0 aVU.body),.code (agq [1,1,1,1,1,1,0,0,0,0,1] aVU.body),.code (agq [1,1,1,1,1,1,0,0,0,1] aVU.body),.inLoop (agq [1,1,1,1,1,1,0,0,0] aVU.body),.inBlock 2,.code (agq [1,1,1,1,1,1,1] aVU.body)],[],.run,false,none,none,2903⟩,
 [⟨14,90,(trie [(4,.acB),(5,iI 0),(8,.ptr 2716 0),(13,.acB),(69,.ptr 2716 0),(70,.slice 2901 0 0 1 1)]),[.afm (anc [1,1,1,1,1,1,1,1,1,1,1,0,0] 2 aNl.body),.code (agq [1,1,1,1,1,1,1,1,1,1,1,0,1] aNl.body),.code (agq [1,1,1,1,1,1,1,1,1,1,1,1] aNl.body)],[],.run,false,none,none,2680⟩,
 ⟨12,166,(trie [(0,.bool false),(6,.slice 2115 0 0 11 11),(7,iI 0),(8,.ptr 2321 0),(9,iI 0),(10,iI 2),(11,iI 8),(12,iI 0),(13,.slice 2461 0 0 1 1),(14,iI 0),(15,.slice 2567 0 0 4 4),(16,iI 0),(17,.slice 2679 0 0 4 4),(18,iI 0),(75,.agg [.slice 2004 0 0 6 6,.slice 1934 0 0 6 6,.slice 1857 0 0 1 1,.slice 1999 0 0 1 1,iI 17])]),[.afm (anc [1,1,1,1,1,1,1,1,1,1,0] 1 aww.body),.code (agq [1,1,1,1,1,1,1,1,1,1,1] aww.body)],[],.run,false,none,none,64⟩],
 ⟨trie [(0,hb0),
 (1857,aVQ),
 (1881,bcm),
 (1913,bcn),
 (1934,bcp),
 (1945,bcq),
 (1965,bcr),
 (1986,hb24),
 (1999,bcs),
 (2004,bcA),
 (2008,aEs),
 (2016,aEv),
 (2036,aEs),
 (2044,aRa),
 (2054,aEv),
 (2062,aRj),
 (2115,bcC),
 (2185,aEs),
 (2192,aRa),
 (2201,aEv),
 (2208,aRj),
 (2301,aVQ),
 (2307,bnV),
 (2311,bnW),
 (2313,bnX),
 (2319,a6f),
 (2321,bn0),
 (2461,bn3),
 (2567,bn6),
 (2679,boa),
 (2714,by2),
 (2715,.map [(iI 3,.ptr 2720 0),(iI 4,.ptr 2732 0),(iI 5,.ptr 2744 0)]),
 (2716,by4),
 (2720,by9),
 (2732,bzc),
 (2744,bzg),
 (2750,a6f),
 (2760,bzh),
 (2770,bzk),
 (2776,bzw),
 (2901,.cells 1 (lst [iI 3]) 3 true 1 0),
 (2903,.cells 1 (lst [.ptr 2716 0]) 86 false 0 0),
 (2904,.map [(iI 3,iI 3),(iI 0,iI 3),(iI 4,iI 3),(iI 1,iI 4),(iI 5,iI 4),(iI 2,iI 5)]),
 (2905,.cells 1 (lst [.map 2904]) 88 false 0 0),
 (2906,.map [(.ptr 2720 0,iI 3),(.ptr 2732 0,iI 3),(.ptr 2744 0,iI 2)]),
 (2907,.cells 1 (lst [.map 2906]) 184 false 0 0),
 (2910,.cells 1 (lst [.slice 2939 1 0 0 0]) 31 false 0 0),
 (2939,.cells 1 (lst [iI 2]) 3 true 1 0)],2942⟩⟩
def r7:AS:=
 ⟨⟨14,90,(trie [(4,.slice 2948 0 0 3 3),(5,iI 0)]),[.code (agq [1,1,0,1,0,1] aNl.body)],[],.run,false,none,none,2680⟩,
 [],
 ⟨trie [(0,hb0),
 (1857,aVQ),
 (1881,bcm),
 (1913,bcn),
 (1934,bcp),
 (1945,bcq),
 (1965,bcr),
 (1986,hb24),
 (1999,bcs),
 (2004,bcA),
 (2008,aEs),
 (2016,aEv),
 (2036,aEs),
 (2044,aRa),
 (2054,aEv),
 (2062,aRj),
 (2115,bcC),
 (2185,aEs),
 (2192,aRa),
 (2201,aEv),
 (2208,aRj),
 (2301,aVQ),
 (2307,bnV),
 (2311,bnW),
 (2313,bnX),
 (2319,a6f),
 (2321,bn0),
 (2461,bn3),
 (2567,bn6),
 (2679,boa),
 (2948,.cells 3 (lst [iI 0,iI 1,iI 2]) 3 true 1 0)],2949⟩⟩
def s7:AS:={r7 with cs:=(afW C 6 0 19 s6).cs}
def s8:AS:=
 ⟨⟨12,166,(lst [.bool true]),[.code (agq [1,1,1,0,1,0,1] aww.body)],[],.returning,false,none,none,64⟩,
 [],
 ⟨trie [(0,hb0)],2955⟩⟩
end
end Ex
end Go.Proofs.YtfehlbepjmmkeaaGreatDoor
