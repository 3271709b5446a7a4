/- The functions that the law FnExactStepJoin reaches, as equations; printed by pe.py. No condition. -/
import Derived.Test.YtmocpfgfjeaelaaGreatEv
import Derived.Test.YtmocpfgfjeaelaaGreatProg
import Derived.KernelRfl
set_option linter.unusedVariables false
open Go Go.Flat
namespace Go.dB
abbrev bT:Ty:=.pair (.int .i64) (.pair (.int .i64) .unit)
abbrev bq:=Int × (Int × Unit)
abbrev SK:Ty:=.pair (.int .i64) bT
abbrev Xr:=Int × bq
abbrev fF:Ty:=.pair (.int .i64) SK
abbrev bA:=Int × Xr
abbrev bD:Ty:=.pair (.int .i64) (.pair (.int .i64) (.pair (.int .i64) (.pair (.list (.int .i64)) .unit)))
abbrev bE:=Int × (Int × (Int × ((List Int) × Unit)))
abbrev gW:Ty:=.pair (.int .i64) fF
abbrev gy:=Int × bA
abbrev nG:Ty:=.pair (.list fF) (.pair bT (.pair (.list bT) (.pair (.aG bD) (.pair (.list (.int .i64)) (.pair (.list gW) (.pair (.list bT) bT))))))
abbrev iB:=(List bA) × (bq × ((List bq) × ((List bE) × ((List Int) × ((List gy) × ((List bq) × bq))))))
abbrev YC:Ty:=.pair (.int .i64) (.pair (.int .i64) (.pair fF (.pair bT (.pair bD (.pair gW .unit)))))
abbrev ZW:=Int × (Int × (bA × (bq × (bE × (gy × Unit)))))
abbrev Zb:Ty:=.pair (.list (.int .i64)) (.pair (.list (.int .i64)) .unit)
abbrev ZX:=(List Int) × ((List Int) × Unit)
abbrev Xt:Ty:=.pair (.list (.int .i64)) (.pair (.int .i64) .unit)
abbrev Zc:=(List Int) × (Int × Unit)
abbrev Xu:Ty:=.pair (.list (.int .u8)) bT
abbrev Zd:=(List Int) × bq
noncomputable def C:aZ:={
  P:=Go.Proofs.Tryz.prog,
  tt:=[(1,none),(2,some (.int .i64)),(3,some (.int .i64)),(4,some .bool),(5,some (.int .u8)),(6,some (.int .u8)),(9,some .str),(10,some .str),(11,some .str),(12,some (.int .u64)),(15,none),(16,none),(17,none),(21,some (.int .i32)),(22,some (.list (.int .u8))),(23,none),(24,some (.list fF)),(25,some bT),(26,some bT),(27,some (.list bT)),(28,some (.aG bD)),(29,some (.list (.int .i64))),(30,some (.list gW)),(31,some (.list bT)),(32,some nG),(33,some nG),(34,some (.aG YC)),(36,none),(38,none),(39,some fF),(40,some fF),(41,some bT),(42,some bT),(43,some bD),(44,some bD),(45,some gW),(46,some gW),(47,some YC),(48,some YC),(49,none),(50,some (.aG (.list SK))),(52,none),(53,none),(54,some bT),(55,some bT),(57,none),(58,none),(59,some Zb),(60,some Zb),(62,none),(64,none),(65,none),(66,none),(67,none),(69,none),(70,none),(72,none),(73,none),(75,none),(76,none),(78,none),(79,none),(81,none),(82,none),(83,none),(84,none),(85,none),(86,none),(87,some (.list fF)),(88,some bT),(89,some (.list bT)),(90,some (.aG bD)),(91,some (.list gW)),(92,some (.list bT)),(93,some nG),(94,some nG),(95,some bD),(96,none),(97,none),(98,none),(99,none),(100,none),(101,none),(102,none),(103,none),(104,none),(105,none),(106,none),(107,none),(108,none),(109,none),(110,none),(112,none),(113,none),(114,none),(115,none),(116,none),(117,none),(118,none),(119,none),(120,none),(121,none),(122,none),(123,none),(124,none),(125,some (.list SK)),(127,none),(128,none),(129,none),(130,none),(131,none),(132,none),(133,none),(134,none),(135,some Xt),(136,some Xt),(138,none),(139,none),(140,none),(141,none),(142,none),(143,none),(144,none),(145,none),(146,none),(147,none),(148,none),(149,none),(150,none),(151,none),(152,none),(153,none),(154,none),(155,none),(157,none),(158,none),(159,none),(160,none),(162,none),(163,none),(164,none),(165,none),(166,none),(167,none),(168,none),(169,none),(170,none),(171,none),(172,none),(173,some bT),(174,some bT),(175,none),(176,none),(177,none),(178,none),(179,none),(180,none),(181,none),(182,none),(183,none),(184,none),(185,none),(186,none),(187,none),(188,none),(189,none),(190,none),(191,none),(192,none),(193,none),(194,none),(195,none),(196,none),(197,none),(198,some (.list .str)),(199,some Xu),(200,some Xu),(201,none),(202,none),(203,none),(204,none),(205,none),(206,none),(207,none),(208,none),(209,none),(210,none),(211,none),(212,some SK),(213,some SK),(214,none),(215,none),(216,none),(217,none),(218,none),(219,none),(221,none),(222,none),(223,none),(224,none),(225,none),(226,none),(227,none),(228,none),(229,none),(230,none),(231,some fF),(232,none),(233,some bT),(234,none),(235,some gW),(236,none),(237,some bT),(238,none),(239,none),(240,none),(241,none),(242,none),(243,none),(244,none),(245,none),(246,none),(247,none),(248,none),(249,some (.int .u64)),(250,none),(251,none),(252,none),(253,none),(254,none),(255,none),(256,none),(257,none),(258,none),(259,some (.int .i64)),(261,none),(262,none),(263,none),(264,none),(265,none),(266,some (.int .u32)),(267,none),(268,some (.int .u64)),(269,none),(270,none),(271,none),(272,none),(273,some (.int .u64)),(274,none),(275,none),(276,none),(277,none),(278,none),(279,none),(280,none),(281,none),(282,none),(283,none),(289,none),(290,some (.int .u8)),(291,some (.int .u8)),(292,none),(293,none),(294,some (.int .i32)),(295,some (.int .i32))],
  vars:=[(46,[2,3,4,6,7]),(59,[0,5,6,7]),(66,[1,2,3,8,9,10]),(68,[0,5,6,7]),(69,[0,5,6,7]),(70,[0,5,6,7]),(71,[0,2,4,22,23,24]),(110,[0,1,7,8]),(112,[0,1,7,8]),(116,[0,1,4,10,11,12]),(130,[0,1,5]),(135,[0,3,4]),(137,[0,3,4]),(139,[0,3,4]),(140,[0,3,4]),(141,[0,3,4]),(142,[0,3,4]),(143,[0,3,4]),(144,[0,1,5]),(146,[0,1,5]),(147,[0,1,5]),(148,[0,1,5]),(149,[0,1,5]),(150,[0,1,5]),(151,[0,1,5]),(152,[0,1,5]),(153,[0,1,5]),(154,[0,1,5]),(155,[0,1,5]),(156,[0,1,5]),(157,[0,1,5]),(158,[0,1,5]),(159,[0,1,5]),(160,[0,1,5]),(161,[0,1,5]),(162,[0,1,5]),(177,[0,3,7,8,9]),(185,[0,1,5,6]),(194,[0,1,7,8]),(222,[3,6,7,8]),(227,[0,1,2,9,10,11]),(228,[0,1,2,9,10,11]),(247,[0,3]),(249,[0,3]),(250,[0,3]),(251,[0,3]),(252,[0,1,2,7,8,9]),(267,[0,3,4,5]),(279,[0,1,5]),(291,[0,1,2,7]),(292,[0,1,5,6])],
  sigs:=[(51,{ lend:=some 0 }),(52,{ lend:=some 0 }),(116,{ lend:=some 0 }),(117,{ io:=[0] }),(136,{ io:=[1] }),(151,{ lend:=some 0 }),(152,{ lend:=some 0 }),(153,{ lend:=some 0 }),(154,{ lend:=some 0 }),(155,{ lend:=some 0 }),(156,{ lend:=some 0 }),(185,{ io:=[0] })],
  ptrs:=[15,16,17,114,149,277,280,293],
  gives:=[44],
  Un:=[(34,28)],
  Le:=[117],
  zF:=[46] }
noncomputable def lZ (k:Nat) (MR:iB) (MS:bE):Option Bool:=run C k 6 .bool [.val nG MR,.val bD MS]
noncomputable def oQ (k:Nat) (a_0:iB) (bR:Int):Option Int:=run C k 44 (.int .i64) [.val nG a_0,.val (.int .i64) bR]
noncomputable def pG (k:Nat) (a_0:bE) (bR:Int):Option Int:=run C k 45 (.int .i64) [.val bD a_0,.val (.int .i64) bR]
noncomputable def jk (k:Nat) (a_0:iB):Option iB:=run C k 47 nG [.val nG a_0]
noncomputable def jX (k:Nat) (a_0:bE):Option bE:=run C k 48 bD [.val bD a_0]
noncomputable def dI (k:Nat) (iL:iB) (p_1:bE):Option (iB × (Bool × Unit)):=run C k 46 (.pair nG (.pair .bool .unit)) [.Nl nG iL,.Nl bD p_1]
noncomputable def dI.l0 (k m:Nat) (Ia:Int) (qQ:(List bA)) (qg:Int) (qh:Int) (qC:(List bq)) (qR:(List bE)) (Eb:(List Int)) (Ec:(List gy)) (Ed:(List bq)) (uD:Int) (uE:Int) (OE:Int) (GD:Int) (GH:Int) (Qr:(List Int)) (Uc:Int) (Ud:Int) (Ue:Int) (Uf:Int) (Qs:Int) (Qt:Int) (Qu:Int) (Qv:Int) (s4:(List bA)) (s5:(List bq)) (s6:(List bE)) (s7:(List Int)) (s8:(List gy)) (s9:(List bq)):Option (iB × (Bool × Unit)):=bF C k 46 (.pair nG (.pair .bool .unit)) [0,0] [.r,.r,.r,.l,.b] [] [2,3,4,6,7] m ⟨[.one (.cell (.ptr 1 0)),.one (.cell (.ptr 5 0)),.one (.cell (.ptr 9 0)),.one (.cell (.ptr 13 0)),.one (.cell (.int .i64 Ia))],[.box (some nG) [.list true fF qQ,.int .i64 qg,.int .i64 qh,.list true bT qC,.list true bD qR,.list true (.int .i64) Eb,.list true gW Ec,.list true bT Ed,.int .i64 uD,.int .i64 uE],.box (some bD) [.int .i64 OE,.int .i64 GD,.int .i64 GH,.list true (.int .i64) Qr],.box (some nG) [.nil,.int .i64 Uc,.int .i64 Ud,.nil,.nil,.nil,.nil,.nil,.int .i64 Ue,.int .i64 Uf],.box (some nG) [.ref 17,.int .i64 Qs,.int .i64 Qt,.ref 21,.fE 25,.ref 29,.ref 33,.ref 37,.int .i64 Qu,.int .i64 Qv],.arr fF s4 .open,.arr bT s5 .open,.deep bD s6 none,.arr (.int .i64) s7 .open,.arr gW s8 .open,.arr bT s9 .open]⟩
noncomputable def mY (k:Nat) (iL:iB) (p_1:bE):Option (iB × (Bool × Unit)):=run C k 35 (.pair nG (.pair .bool .unit)) [.val nG iL,.val bD p_1]
noncomputable def jl (k:Nat) (a_0:iB) (b_1:iB):Option Bool:=run C k 49 .bool [.val nG a_0,.val nG b_1]
noncomputable def pI (k:Nat) (a_0:bE) (b_1:bE):Option Bool:=run C k 50 .bool [.val bD a_0,.val bD b_1]
noncomputable def jA (k:Nat) (a_0:iB) (bS:Int):Option (Int × ((List bA) × ((Unit × (Unit × Unit)) × ((List bq) × ((List bE) × ((List Int) × ((List gy) × ((List bq) × (Unit × (Unit × Unit)))))))))):=run C k 51 (.pair (.int .i64) (.pair (.list fF) (.pair (.pair .unit (.pair .unit .unit)) (.pair (.list bT) (.pair (.aG bD) (.pair (.list (.int .i64)) (.pair (.list gW) (.pair (.list bT) (.pair .unit (.pair .unit .unit)))))))))) [.lend nG a_0,.val (.int .i64) bS]
noncomputable def wE (k:Nat) (a_0:bE) (bS:Int):Option (Int × (Unit × (Unit × (Unit × ((List Int) × Unit))))):=run C k 52 (.pair (.int .i64) (.pair .unit (.pair .unit (.pair .unit (.pair (.list (.int .i64)) .unit))))) [.lend bD a_0,.val (.int .i64) bS]
noncomputable def jB (k:Nat) (a_0:iB) (bS:Int):Option Int:=run C k 53 (.int .i64) [.val nG a_0,.val (.int .i64) bS]
noncomputable def tF (k:Nat) (a_0:(List bA)) (bR:Int):Option Int:=run C k 128 (.int .i64) [.val (.list fF) a_0,.val (.int .i64) bR]
noncomputable def tH (k:Nat) (a_0:(List bq)) (bR:Int):Option Int:=run C k 129 (.int .i64) [.val (.list bT) a_0,.val (.int .i64) bR]
noncomputable def dW (k:Nat) (a_0:(List bE)) (bR:Int):Option Int:=run C k 130 (.int .i64) [.val (.aG bD) a_0,.val (.int .i64) bR]
noncomputable def dW.l0 (k m:Nat) (a_0:(List bE)) (bR:Int) (aU:Int):Option Int:=bF C k 130 (.int .i64) [0,0] [.r,.r,.r,.l,.r,.b] [] [0,1,5] m ⟨[.one (.cell (.list false bD a_0)),.one (.cell (.int .i64 bR)),.one (.cell (.int .i64 aU))],[]⟩
noncomputable def sM (k:Nat) (a_0:(List Int)) (bR:Int):Option Int:=run C k 131 (.int .i64) [.val (.list (.int .i64)) a_0,.val (.int .i64) bR]
noncomputable def vN (k:Nat) (a_0:(List gy)) (bR:Int):Option Int:=run C k 132 (.int .i64) [.val (.list gW) a_0,.val (.int .i64) bR]
noncomputable def rM (k:Nat) (a_0:(List bq)) (bR:Int):Option Int:=run C k 133 (.int .i64) [.val (.list bT) a_0,.val (.int .i64) bR]
noncomputable def fT (k:Nat) (a_0:(List bA)):Option (List bA):=run C k 137 (.list fF) [.val (.list fF) a_0]
noncomputable def fT.l0 (k m:Nat) (a_0:(List bA)) (jR:Int) (s0:(List bA)):Option (List bA):=bF C k 137 (.list fF) [0] [.r,.r,.l,.r,.b] [] [0,3,4] m ⟨[.one (.cell (.list false fF a_0)),.one (.cell (.ref 1)),.one (.cell (.int .i64 jR))],[.arr fF s0 .open]⟩
noncomputable def vO (k:Nat) (a_0:bq):Option bq:=run C k 138 bT [.val bT a_0]
noncomputable def fU (k:Nat) (a_0:(List bq)):Option (List bq):=run C k 139 (.list bT) [.val (.list bT) a_0]
noncomputable def fU.l0 (k m:Nat) (a_0:(List bq)) (jR:Int) (s0:(List bq)):Option (List bq):=bF C k 139 (.list bT) [0] [.r,.r,.l,.r,.b] [] [0,3,4] m ⟨[.one (.cell (.list false bT a_0)),.one (.cell (.ref 1)),.one (.cell (.int .i64 jR))],[.arr bT s0 .open]⟩
noncomputable def eG (k:Nat) (a_0:(List bE)):Option (List bE):=run C k 140 (.aG bD) [.val (.aG bD) a_0]
noncomputable def eG.l0 (k m:Nat) (a_0:(List bE)) (jR:Int) (s0:(List bE)):Option (List bE):=bF C k 140 (.aG bD) [0] [.r,.r,.l,.r,.b] [] [0,3,4] m ⟨[.one (.cell (.list false bD a_0)),.one (.cell (.fE 1)),.one (.cell (.int .i64 jR))],[.deep bD s0 none]⟩
noncomputable def gT (k:Nat) (a_0:(List Int)):Option (List Int):=run C k 141 (.list (.int .i64)) [.val (.list (.int .i64)) a_0]
noncomputable def gT.l0 (k m:Nat) (a_0:(List Int)) (jR:Int) (s0:(List Int)):Option (List Int):=bF C k 141 (.list (.int .i64)) [0] [.r,.r,.l,.r,.b] [] [0,3,4] m ⟨[.one (.cell (.list false (.int .i64) a_0)),.one (.cell (.ref 1)),.one (.cell (.int .i64 jR))],[.arr (.int .i64) s0 .open]⟩
noncomputable def gK (k:Nat) (a_0:(List gy)):Option (List gy):=run C k 142 (.list gW) [.val (.list gW) a_0]
noncomputable def gK.l0 (k m:Nat) (a_0:(List gy)) (jR:Int) (s0:(List gy)):Option (List gy):=bF C k 142 (.list gW) [0] [.r,.r,.l,.r,.b] [] [0,3,4] m ⟨[.one (.cell (.list false gW a_0)),.one (.cell (.ref 1)),.one (.cell (.int .i64 jR))],[.arr gW s0 .open]⟩
noncomputable def eH (k:Nat) (a_0:(List bq)):Option (List bq):=run C k 143 (.list bT) [.val (.list bT) a_0]
noncomputable def eH.l0 (k m:Nat) (a_0:(List bq)) (jR:Int) (s0:(List bq)):Option (List bq):=bF C k 143 (.list bT) [0] [.r,.r,.l,.r,.b] [] [0,3,4] m ⟨[.one (.cell (.list false bT a_0)),.one (.cell (.ref 1)),.one (.cell (.int .i64 jR))],[.arr bT s0 .open]⟩
noncomputable def oq (k:Nat) (iL:iB):Option iB:=run C k 134 nG [.val nG iL]
noncomputable def bH (k:Nat) (aO:(List bE)):Option (List bE):=run C k 135 (.aG bD) [.val (.aG bD) aO]
noncomputable def bH.l0 (k m:Nat) (aO:(List bE)) (jR:Int) (s0:(List bE)):Option (List bE):=bF C k 135 (.aG bD) [0] [.r,.r,.l,.r,.b] [] [0,3,4] m ⟨[.one (.cell (.list false bD aO)),.one (.cell (.fE 1)),.one (.cell (.int .i64 jR))],[.deep bD s0 none]⟩
noncomputable def kN (k:Nat) (iL:iB) (MU:iB) (Ug:Bool):Option (iB × (Bool × Unit)):=run C k 136 (.pair nG (.pair .bool .unit)) [.val nG iL,.give nG MU,.val .bool Ug]
noncomputable def oU (k:Nat) (iL:iB) (qD:bE):Option (iB × (Bool × Unit)):=run C k 97 (.pair nG (.pair .bool .unit)) [.val nG iL,.qY 116 [.ro bD qD]]
noncomputable def fV (k:Nat) (a_0:(List bA)) (b_1:(List bA)):Option Bool:=run C k 144 .bool [.val (.list fF) a_0,.val (.list fF) b_1]
noncomputable def fV.l0 (k m:Nat) (a_0:(List bA)) (b_1:(List bA)) (aU:Int):Option Bool:=bF C k 144 .bool [0,0] [.r,.r,.l,.r,.b] [] [0,1,5] m ⟨[.one (.cell (.list false fF a_0)),.one (.cell (.list false fF b_1)),.one (.cell (.int .i64 aU))],[]⟩
noncomputable def vP (k:Nat) (a_0:bq) (b_1:bq):Option Bool:=run C k 145 .bool [.val bT a_0,.val bT b_1]
noncomputable def fZ (k:Nat) (a_0:(List bq)) (b_1:(List bq)):Option Bool:=run C k 146 .bool [.val (.list bT) a_0,.val (.list bT) b_1]
noncomputable def fZ.l0 (k m:Nat) (a_0:(List bq)) (b_1:(List bq)) (aU:Int):Option Bool:=bF C k 146 .bool [0,0] [.r,.r,.l,.r,.b] [] [0,1,5] m ⟨[.one (.cell (.list false bT a_0)),.one (.cell (.list false bT b_1)),.one (.cell (.int .i64 aU))],[]⟩
noncomputable def eO (k:Nat) (a_0:(List bE)) (b_1:(List bE)):Option Bool:=run C k 147 .bool [.val (.aG bD) a_0,.val (.aG bD) b_1]
noncomputable def eO.l0 (k m:Nat) (a_0:(List bE)) (b_1:(List bE)) (aU:Int):Option Bool:=bF C k 147 .bool [0,0] [.r,.r,.l,.r,.b] [] [0,1,5] m ⟨[.one (.cell (.list false bD a_0)),.one (.cell (.list false bD b_1)),.one (.cell (.int .i64 aU))],[]⟩
noncomputable def gU (k:Nat) (a_0:(List Int)) (b_1:(List Int)):Option Bool:=run C k 148 .bool [.val (.list (.int .i64)) a_0,.val (.list (.int .i64)) b_1]
noncomputable def gU.l0 (k m:Nat) (a_0:(List Int)) (b_1:(List Int)) (aU:Int):Option Bool:=bF C k 148 .bool [0,0] [.r,.r,.l,.r,.b] [] [0,1,5] m ⟨[.one (.cell (.list false (.int .i64) a_0)),.one (.cell (.list false (.int .i64) b_1)),.one (.cell (.int .i64 aU))],[]⟩
noncomputable def gL (k:Nat) (a_0:(List gy)) (b_1:(List gy)):Option Bool:=run C k 149 .bool [.val (.list gW) a_0,.val (.list gW) b_1]
noncomputable def gL.l0 (k m:Nat) (a_0:(List gy)) (b_1:(List gy)) (aU:Int):Option Bool:=bF C k 149 .bool [0,0] [.r,.r,.l,.r,.b] [] [0,1,5] m ⟨[.one (.cell (.list false gW a_0)),.one (.cell (.list false gW b_1)),.one (.cell (.int .i64 aU))],[]⟩
noncomputable def eP (k:Nat) (a_0:(List bq)) (b_1:(List bq)):Option Bool:=run C k 150 .bool [.val (.list bT) a_0,.val (.list bT) b_1]
noncomputable def eP.l0 (k m:Nat) (a_0:(List bq)) (b_1:(List bq)) (aU:Int):Option Bool:=bF C k 150 .bool [0,0] [.r,.r,.l,.r,.b] [] [0,1,5] m ⟨[.one (.cell (.list false bT a_0)),.one (.cell (.list false bT b_1)),.one (.cell (.int .i64 aU))],[]⟩
noncomputable def dQ (k:Nat) (a_0:(List bA)) (bS:Int):Option (Int × (List bA)):=run C k 151 (.pair (.int .i64) (.list fF)) [.lend (.list fF) a_0,.val (.int .i64) bS]
noncomputable def dQ.l0 (k m:Nat) (bS:Int) (aU:Int) (s0:(List bA)):Option (Int × (List bA)):=ug C k 151 (.pair (.int .i64) (.list fF)) 0 (.list fF) 2 [.r,.l,.r,.b] [] [0,1,5] m ⟨[.one (.cell (.ref 1)),.one (.cell (.int .i64 bS)),.one (.cell (.int .i64 aU))],[.arr fF s0 (.pinned 0)]⟩
noncomputable def dR (k:Nat) (a_0:(List bq)) (bS:Int):Option (Int × (List bq)):=run C k 152 (.pair (.int .i64) (.list bT)) [.lend (.list bT) a_0,.val (.int .i64) bS]
noncomputable def dR.l0 (k m:Nat) (bS:Int) (aU:Int) (s0:(List bq)):Option (Int × (List bq)):=ug C k 152 (.pair (.int .i64) (.list bT)) 0 (.list bT) 2 [.r,.l,.r,.b] [] [0,1,5] m ⟨[.one (.cell (.ref 1)),.one (.cell (.int .i64 bS)),.one (.cell (.int .i64 aU))],[.arr bT s0 (.pinned 0)]⟩
noncomputable def cu (k:Nat) (a_0:(List bE)) (bS:Int):Option (Int × (List bE)):=run C k 153 (.pair (.int .i64) (.aG bD)) [.lend (.aG bD) a_0,.val (.int .i64) bS]
noncomputable def cu.l0 (k m:Nat) (bS:Int) (aU:Int) (s0:(List bE)):Option (Int × (List bE)):=ug C k 153 (.pair (.int .i64) (.aG bD)) 0 (.aG bD) 2 [.r,.l,.r,.b] [] [0,1,5] m ⟨[.one (.cell (.fE 1)),.one (.cell (.int .i64 bS)),.one (.cell (.int .i64 aU))],[.deep bD s0 (some 0)]⟩
noncomputable def dZ (k:Nat) (a_0:(List Int)) (bS:Int):Option (Int × (List Int)):=run C k 154 (.pair (.int .i64) (.list (.int .i64))) [.lend (.list (.int .i64)) a_0,.val (.int .i64) bS]
noncomputable def dZ.l0 (k m:Nat) (bS:Int) (aU:Int) (s0:(List Int)):Option (Int × (List Int)):=ug C k 154 (.pair (.int .i64) (.list (.int .i64))) 0 (.list (.int .i64)) 2 [.r,.l,.r,.b] [] [0,1,5] m ⟨[.one (.cell (.ref 1)),.one (.cell (.int .i64 bS)),.one (.cell (.int .i64 aU))],[.arr (.int .i64) s0 (.pinned 0)]⟩
noncomputable def eT (k:Nat) (a_0:(List gy)) (bS:Int):Option (Int × (List gy)):=run C k 155 (.pair (.int .i64) (.list gW)) [.lend (.list gW) a_0,.val (.int .i64) bS]
noncomputable def eT.l0 (k m:Nat) (bS:Int) (aU:Int) (s0:(List gy)):Option (Int × (List gy)):=ug C k 155 (.pair (.int .i64) (.list gW)) 0 (.list gW) 2 [.r,.l,.r,.b] [] [0,1,5] m ⟨[.one (.cell (.ref 1)),.one (.cell (.int .i64 bS)),.one (.cell (.int .i64 aU))],[.arr gW s0 (.pinned 0)]⟩
noncomputable def dD (k:Nat) (a_0:(List bq)) (bS:Int):Option (Int × (List bq)):=run C k 156 (.pair (.int .i64) (.list bT)) [.lend (.list bT) a_0,.val (.int .i64) bS]
noncomputable def dD.l0 (k m:Nat) (bS:Int) (aU:Int) (s0:(List bq)):Option (Int × (List bq)):=ug C k 156 (.pair (.int .i64) (.list bT)) 0 (.list bT) 2 [.r,.l,.r,.b] [] [0,1,5] m ⟨[.one (.cell (.ref 1)),.one (.cell (.int .i64 bS)),.one (.cell (.int .i64 aU))],[.arr bT s0 (.pinned 0)]⟩
noncomputable def dS (k:Nat) (a_0:(List bA)) (bS:Int):Option Int:=run C k 157 (.int .i64) [.val (.list fF) a_0,.val (.int .i64) bS]
noncomputable def dS.l0 (k m:Nat) (a_0:(List bA)) (bS:Int) (aU:Int):Option Int:=bF C k 157 (.int .i64) [0,0] [.r,.l,.r,.b] [] [0,1,5] m ⟨[.one (.cell (.list false fF a_0)),.one (.cell (.int .i64 bS)),.one (.cell (.int .i64 aU))],[]⟩
noncomputable def dU (k:Nat) (a_0:(List bq)) (bS:Int):Option Int:=run C k 158 (.int .i64) [.val (.list bT) a_0,.val (.int .i64) bS]
noncomputable def dU.l0 (k m:Nat) (a_0:(List bq)) (bS:Int) (aU:Int):Option Int:=bF C k 158 (.int .i64) [0,0] [.r,.l,.r,.b] [] [0,1,5] m ⟨[.one (.cell (.list false bT a_0)),.one (.cell (.int .i64 bS)),.one (.cell (.int .i64 aU))],[]⟩
noncomputable def cB (k:Nat) (a_0:(List bE)) (bS:Int):Option Int:=run C k 159 (.int .i64) [.val (.aG bD) a_0,.val (.int .i64) bS]
noncomputable def cB.l0 (k m:Nat) (a_0:(List bE)) (bS:Int) (aU:Int):Option Int:=bF C k 159 (.int .i64) [0,0] [.r,.l,.r,.b] [] [0,1,5] m ⟨[.one (.cell (.list false bD a_0)),.one (.cell (.int .i64 bS)),.one (.cell (.int .i64 aU))],[]⟩
noncomputable def fq (k:Nat) (a_0:(List Int)) (bS:Int):Option Int:=run C k 160 (.int .i64) [.val (.list (.int .i64)) a_0,.val (.int .i64) bS]
noncomputable def fq.l0 (k m:Nat) (a_0:(List Int)) (bS:Int) (aU:Int):Option Int:=bF C k 160 (.int .i64) [0,0] [.r,.l,.r,.b] [] [0,1,5] m ⟨[.one (.cell (.list false (.int .i64) a_0)),.one (.cell (.int .i64 bS)),.one (.cell (.int .i64 aU))],[]⟩
noncomputable def eU (k:Nat) (a_0:(List gy)) (bS:Int):Option Int:=run C k 161 (.int .i64) [.val (.list gW) a_0,.val (.int .i64) bS]
noncomputable def eU.l0 (k m:Nat) (a_0:(List gy)) (bS:Int) (aU:Int):Option Int:=bF C k 161 (.int .i64) [0,0] [.r,.l,.r,.b] [] [0,1,5] m ⟨[.one (.cell (.list false gW a_0)),.one (.cell (.int .i64 bS)),.one (.cell (.int .i64 aU))],[]⟩
noncomputable def dF (k:Nat) (a_0:(List bq)) (bS:Int):Option Int:=run C k 162 (.int .i64) [.val (.list bT) a_0,.val (.int .i64) bS]
noncomputable def dF.l0 (k m:Nat) (a_0:(List bq)) (bS:Int) (aU:Int):Option Int:=bF C k 162 (.int .i64) [0,0] [.r,.l,.r,.b] [] [0,1,5] m ⟨[.one (.cell (.list false bT a_0)),.one (.cell (.int .i64 bS)),.one (.cell (.int .i64 aU))],[]⟩
noncomputable def vQ (k:Nat) (a_0:bA):Option bA:=run C k 213 fF [.val fF a_0]
noncomputable def vR (k:Nat) (a_0:bq):Option bq:=run C k 214 bT [.val bT a_0]
noncomputable def xV (k:Nat) (a_0:gy):Option gy:=run C k 215 gW [.val gW a_0]
noncomputable def tJ (k:Nat) (a_0:bq):Option bq:=run C k 216 bT [.val bT a_0]
noncomputable def jm (k:Nat) (iL:iB):Option Bool:=run C k 212 .bool [.val nG iL]
noncomputable def aN (k:Nat) (iL:iB):Option iB:=run C k 66 nG [.val nG iL]
noncomputable def aN.l0 (k m:Nat) (ql:(List bE)) (xW:Int) (tK:Int) (qQ:(List bA)) (qg:Int) (qh:Int) (qC:(List bq)) (qR:(List bE)) (Eb:(List Int)) (Ec:(List gy)) (Ed:(List bq)) (uD:Int) (uE:Int) (GD:Int) (GH:Int) (Uh:Int) (Ui:Int) (s2:(List bE)):Option iB:=bF C k 66 nG [0] [.r,.r,.l,.r,.b] [] [1,2,3,8,9,10] m ⟨[.one (.cell (.ptr 1 0)),.one (.cell (.ptr 5 0)),.one (.cell (.fE 9)),.one (.cell (.list false bD ql)),.one (.cell (.int .i64 xW)),.one (.cell (.int .i64 tK))],[.box (some nG) [.list false fF qQ,.int .i64 qg,.int .i64 qh,.list false bT qC,.list false bD qR,.list false (.int .i64) Eb,.list false gW Ec,.list false bT Ed,.int .i64 uD,.int .i64 uE],.box (some nG) [.nil,.int .i64 GD,.int .i64 GH,.nil,.nil,.nil,.nil,.nil,.int .i64 Uh,.int .i64 Ui],.deep bD s2 none]⟩
noncomputable def bf (k:Nat) (iL:iB) (a_1:bE):Option (Bool × iB):=run C k 116 (.pair .bool nG) [.mQ nG iL,.rp bD a_1]
noncomputable def bf.l0 (k m:Nat) (t_1:bE) (KH:Int) (nW:Int) (Iz:Int) (qg:Int) (qh:Int) (uD:Int) (uE:Int) (s1:(List bE)) (s2:(List bA)) (s3:(List bq)) (s4:(List Int)) (s5:(List gy)) (s6:(List bq)):Option (Bool × iB):=Rn C k 116 (.pair .bool nG) 0 nG 2 [.r,.r,.l,.r,.b] [] [0,1,4,10,11,12] m ⟨[.one (.cell (.ptr 1 0)),.one (.cell (.nH false bD t_1 0)),.one (.cell (.int .i64 KH)),.one (.cell (.fE 5)),.one (.cell (.int .i64 nW)),.one (.cell (.int .i64 Iz))],[.box (some nG) [.ref 9,.int .i64 qg,.int .i64 qh,.ref 13,.fE 5,.ref 17,.ref 21,.ref 25,.int .i64 uD,.int .i64 uE],.deep bD s1 none,.arr fF s2 .open,.arr bT s3 .open,.arr (.int .i64) s4 .open,.arr gW s5 .open,.arr bT s6 .open]⟩
noncomputable def fu (k:Nat) (iL:iB):Option Bool:=run C k 11 .bool [.val nG iL]
noncomputable def vS (k:Nat) (a_0:bA) (b_1:bA):Option Bool:=run C k 217 .bool [.val fF a_0,.val fF b_1]
noncomputable def vT (k:Nat) (a_0:bq) (b_1:bq):Option Bool:=run C k 218 .bool [.val bT a_0,.val bT b_1]
noncomputable def xX (k:Nat) (a_0:gy) (b_1:gy):Option Bool:=run C k 219 .bool [.val gW a_0,.val gW b_1]
noncomputable def tL (k:Nat) (a_0:bq) (b_1:bq):Option Bool:=run C k 220 .bool [.val bT a_0,.val bT b_1]
noncomputable def dw (k:Nat) (aO:(List bA)):Option Bool:=run C k 247 .bool [.val (.list fF) aO]
noncomputable def dw.l0 (k m:Nat) (aO:(List bA)) (gV:Int):Option Bool:=bF C k 247 .bool [0] [.r,.l,.r,.b] [] [0,3] m ⟨[.one (.cell (.list false fF aO)),.one (.cell (.int .i64 gV))],[]⟩
noncomputable def vU (k:Nat) (MV:bq):Option Bool:=run C k 248 .bool [.val bT MV]
noncomputable def dN (k:Nat) (aO:(List bq)):Option Bool:=run C k 249 .bool [.val (.list bT) aO]
noncomputable def dN.l0 (k m:Nat) (aO:(List bq)) (gV:Int):Option Bool:=bF C k 249 .bool [0] [.r,.l,.r,.b] [] [0,3] m ⟨[.one (.cell (.list false bT aO)),.one (.cell (.int .i64 gV))],[]⟩
noncomputable def dJ (k:Nat) (aO:(List gy)):Option Bool:=run C k 250 .bool [.val (.list gW) aO]
noncomputable def dJ.l0 (k m:Nat) (aO:(List gy)) (gV:Int):Option Bool:=bF C k 250 .bool [0] [.r,.l,.r,.b] [] [0,3] m ⟨[.one (.cell (.list false gW aO)),.one (.cell (.int .i64 gV))],[]⟩
noncomputable def cO (k:Nat) (aO:(List bq)):Option Bool:=run C k 251 .bool [.val (.list bT) aO]
noncomputable def cO.l0 (k m:Nat) (aO:(List bq)) (gV:Int):Option Bool:=bF C k 251 .bool [0] [.r,.l,.r,.b] [] [0,3] m ⟨[.one (.cell (.list false bT aO)),.one (.cell (.int .i64 gV))],[]⟩
noncomputable def aM (k:Nat) (aO:(List bE)) (gM:(List bA)) (bU:(List Int)):Option Bool:=run C k 252 .bool [.val (.aG bD) aO,.val (.list fF) gM,.val (.list (.int .i64)) bU]
noncomputable def aM.l0 (k m:Nat) (aO:(List bE)) (gM:(List bA)) (bU:(List Int)) (zy:Int):Option Bool:=bF C k 252 .bool [0,0,0] [.r,.l,.r,.b] [] [0,1,2,7] m ⟨[.one (.cell (.list false bD aO)),.one (.cell (.list false fF gM)),.one (.cell (.list false (.int .i64) bU)),.one (.cell (.int .i64 zy))],[]⟩
noncomputable def aM.l1 (k m m1:Nat) (aO:(List bE)) (gM:(List bA)) (bU:(List Int)) (zy:Int) (Cz:Bool) (Qw:Int):Option Bool:=bF C k 252 .bool [0,0,0] [.r,.l,.r,.b,.p,.r,.l,.b,.r,.l,.r,.b] [⟨[0,1,2,7],m1⟩] [0,1,2,7,8,9] m ⟨[.one (.cell (.list false bD aO)),.one (.cell (.list false fF gM)),.one (.cell (.list false (.int .i64) bU)),.one (.cell (.int .i64 zy)),.one (.cell (.prop (Cz=true) (instDecidableEqBool Cz true))),.one (.cell (.int .i64 Qw))],[]⟩
noncomputable def fB (k:Nat) (x_0:Int) (EY:Int) (KI:Int):Option Bool:=run C k 236 .bool [.val (.int .i64) x_0,.val (.int .i64) EY,.val (.int .i64) KI]
noncomputable def mO (k:Nat) (p_0:bE):Option bE:=run C k 118 bD [.val bD p_0]
noncomputable def jE (k:Nat) (aO:(List bA)):Option (List bA):=run C k 171 (.list fF) [.val (.list fF) aO]
noncomputable def lC (k:Nat) (aO:(List bq)):Option (List bq):=run C k 172 (.list bT) [.val (.list bT) aO]
noncomputable def ou (k:Nat) (aO:(List Int)):Option (List Int):=run C k 173 (.list (.int .i64)) [.val (.list (.int .i64)) aO]
noncomputable def mg (k:Nat) (aO:(List gy)):Option (List gy):=run C k 174 (.list gW) [.val (.list gW) aO]
noncomputable def kP (k:Nat) (aO:(List bq)):Option (List bq):=run C k 175 (.list bT) [.val (.list bT) aO]
noncomputable def dx (k:Nat) (aO:(List bA)):Option Bool:=run C k 59 .bool [.val (.list fF) aO]
noncomputable def dx.l0 (k m:Nat) (aO:(List bA)) (pJ:(List bA)) (wK:Int) (gX:Int):Option Bool:=bF C k 59 .bool [0] [.r,.l,.r,.b] [] [0,5,6,7] m ⟨[.one (.cell (.list false fF aO)),.one (.cell (.list false fF pJ)),.one (.cell (.int .i64 wK)),.one (.cell (.int .i64 gX))],[]⟩
noncomputable def vV (k:Nat) (MV:bq):Option Bool:=run C k 67 .bool [.val bT MV]
noncomputable def dO (k:Nat) (aO:(List bq)):Option Bool:=run C k 68 .bool [.val (.list bT) aO]
noncomputable def dO.l0 (k m:Nat) (aO:(List bq)) (pJ:(List bq)) (wK:Int) (gX:Int):Option Bool:=bF C k 68 .bool [0] [.r,.l,.r,.b] [] [0,5,6,7] m ⟨[.one (.cell (.list false bT aO)),.one (.cell (.list false bT pJ)),.one (.cell (.int .i64 wK)),.one (.cell (.int .i64 gX))],[]⟩
noncomputable def dK (k:Nat) (aO:(List gy)):Option Bool:=run C k 69 .bool [.val (.list gW) aO]
noncomputable def dK.l0 (k m:Nat) (aO:(List gy)) (pJ:(List gy)) (wK:Int) (gX:Int):Option Bool:=bF C k 69 .bool [0] [.r,.l,.r,.b] [] [0,5,6,7] m ⟨[.one (.cell (.list false gW aO)),.one (.cell (.list false gW pJ)),.one (.cell (.int .i64 wK)),.one (.cell (.int .i64 gX))],[]⟩
noncomputable def cZ (k:Nat) (aO:(List bq)):Option Bool:=run C k 70 .bool [.val (.list bT) aO]
noncomputable def cZ.l0 (k m:Nat) (aO:(List bq)) (pJ:(List bq)) (wK:Int) (gX:Int):Option Bool:=bF C k 70 .bool [0] [.r,.l,.r,.b] [] [0,5,6,7] m ⟨[.one (.cell (.list false bT aO)),.one (.cell (.list false bT pJ)),.one (.cell (.int .i64 wK)),.one (.cell (.int .i64 gX))],[]⟩
noncomputable def dH (k:Nat) (aO:(List bE)) (gM:(List bA)) (bU:(List Int)):Option Bool:=run C k 71 .bool [.val (.aG bD) aO,.val (.list fF) gM,.val (.list (.int .i64)) bU]
noncomputable def dH.l0 (k m:Nat) (aO:(List bE)) (bU:(List Int)) (OG:(List Int)) (SL:Int) (CB:Int) (qQ:(List bA)):Option Bool:=bF C k 71 .bool [0,0,0] [.r,.r,.l,.r,.b] [] [0,2,4,22,23,24] m ⟨[.one (.cell (.list false bD aO)),.one (.cell (.list false (.int .i64) bU)),.one (.cell (.ptr 1 0)),.one (.cell (.list false (.int .i64) OG)),.one (.cell (.int .i64 SL)),.one (.cell (.int .i64 CB))],[.box (some (.list fF)) [.list false fF qQ]]⟩
noncomputable def bC (k:Nat) (Xv:Int) (iw:Int) (eX:Int):Option Bool:=run C k 72 .bool [.val (.int .i64) Xv,.val (.int .i64) iw,.val (.int .i64) eX]
noncomputable def CF (k:Nat) (QX:bA):Option Bool:=run C k 275 .bool [.val fF QX]
noncomputable def tN (k:Nat) (a_0:bA) (b_1:bA):Option Bool:=run C k 276 .bool [.val fF a_0,.val fF b_1]
noncomputable def rO (k:Nat) (a_0:gy) (b_1:gy):Option Bool:=run C k 277 .bool [.val gW a_0,.val gW b_1]
noncomputable def aC (k:Nat) (aO:(List bE)):Option Bool:=run C k 267 .bool [.val (.aG bD) aO]
noncomputable def aC.l0 (k m:Nat) (aO:(List bE)) (gV:Int):Option Bool:=bF C k 267 .bool [0] [.r,.l,.r,.b] [] [0,3] m ⟨[.one (.cell (.list false bD aO)),.one (.cell (.int .i64 gV))],[]⟩
noncomputable def aC.l1 (k m m1:Nat) (aO:(List bE)) (gV:Int) (Nk:Int) (qQ:Int) (qg:Int) (qh:Int) (qC:(List Int)):Option Bool:=bF C k 267 .bool [0] [.r,.l,.r,.b,.p,.r,.l,.b,.r,.r,.r,.b] [⟨[0,3],m1⟩] [0,3,4,5] m ⟨[.one (.cell (.list false bD aO)),.one (.cell (.int .i64 gV)),.one (.cell (.ptr 1 0)),.one (.cell (.int .i64 Nk))],[.box (some bD) [.int .i64 qQ,.int .i64 qg,.int .i64 qh,.list true (.int .i64) qC]]⟩
noncomputable def vW (k:Nat) (p_0:bE) (l_1:(List bA)) (oz:Int):Option Bool:=run C k 278 .bool [.val bD p_0,.val (.list fF) l_1,.val (.int .i64) oz]
noncomputable def gF (k:Nat) (aO:(List Int)) (Te:Int):Option Bool:=run C k 279 .bool [.val (.list (.int .i64)) aO,.val (.int .i64) Te]
noncomputable def gF.l0 (k m:Nat) (aO:(List Int)) (Te:Int) (aU:Int):Option Bool:=bF C k 279 .bool [0,0] [.r,.l,.r,.b] [] [0,1,5] m ⟨[.one (.cell (.list false (.int .i64) aO)),.one (.cell (.int .i64 Te)),.one (.cell (.int .i64 aU))],[]⟩
noncomputable def qE (k:Nat) (a_0:bA) (b_1:bA):Option Int:=run C k 164 (.int .i64) [.val fF a_0,.val fF b_1]
noncomputable def rP (k:Nat) (a_0:gy) (b_1:gy):Option Int:=run C k 176 (.int .i64) [.val gW a_0,.val gW b_1]
noncomputable def dh (k:Nat) (aO:(List bE)):Option Bool:=run C k 177 .bool [.val (.aG bD) aO]
noncomputable def dh.l0 (k m:Nat) (aO:(List bE)) (gX:(List bE)) (ql:Int) (xW:Int) (s0:(List Int)):Option Bool:=bF C k 177 .bool [0] [.r,.r,.l,.r,.b] [] [0,3,7,8,9] m ⟨[.one (.cell (.list false bD aO)),.one (.cell (.ref 1)),.one (.cell (.list false bD gX)),.one (.cell (.int .i64 ql)),.one (.cell (.int .i64 xW))],[.arr (.int .i64) s0 .open]⟩
noncomputable def iD (k:Nat) (s_0:(List Int)) (v_1:Int):Option Bool:=run C k 178 .bool [.val (.list (.int .i64)) s_0,.val (.int .i64) v_1]
noncomputable def gJ (k:Nat) (s_0:(List bE)) (qD:Int) (KJ:(List bA)) (KL:Int):Option Bool:=run C k 179 .bool [.val (.aG bD) s_0,.qY 180 [.ro (.int .i64) qD,.ro (.list fF) KJ,.ro (.int .i64) KL]]
noncomputable def fJ (k:Nat) (aO:(List bA)) (kg:Int):Option (List bA):=run C k 292 (.list fF) [.val (.list fF) aO,.val (.int .i64) kg]
noncomputable def fJ.l0 (k m:Nat) (aO:(List bA)) (kg:Int) (Qx:Int) (s0:(List bA)):Option (List bA):=bF C k 292 (.list fF) [0,0] [.r,.r,.l,.r,.b] [] [0,1,5,6] m ⟨[.one (.cell (.list false fF aO)),.one (.cell (.int .i64 kg)),.one (.cell (.ref 1)),.one (.cell (.int .i64 Qx))],[.arr fF s0 .open]⟩
noncomputable def dX (k:Nat) (aO:(List bA)) (iw:Int) (eX:Int):Option Bool:=run C k 291 .bool [.val (.list fF) aO,.val (.int .i64) iw,.val (.int .i64) eX]
noncomputable def dX.l0 (k m:Nat) (aO:(List bA)) (iw:Int) (eX:Int) (zy:Int):Option Bool:=bF C k 291 .bool [0,0,0] [.r,.l,.r,.b] [] [0,1,2,7] m ⟨[.one (.cell (.list false fF aO)),.one (.cell (.int .i64 iw)),.one (.cell (.int .i64 eX)),.one (.cell (.int .i64 zy))],[]⟩
noncomputable def cmp_Compare_int (k:Nat) (x_0:Int) (y_1:Int):Option Int:=run C k 223 (.int .i64) [.val (.int .i64) x_0,.val (.int .i64) y_1]
noncomputable def eD (k:Nat) (GI:(List Int)):Option Int:=run C k 222 (.int .i64) [.val (.list (.int .i64)) GI]
noncomputable def eD.l0 (k m:Nat) (CG:Int) (wK:(List Int)) (gX:Int) (ql:Int):Option Int:=bF C k 222 (.int .i64) [0] [.r,.r,.l,.r,.b] [] [3,6,7,8] m ⟨[.one (.cell (.int .i64 CG)),.one (.cell (.list false (.int .i64) wK)),.one (.cell (.int .i64 gX)),.one (.cell (.int .i64 ql))],[]⟩
noncomputable def dn (k:Nat) (aO:(List Int)) (iw:Int) (eX:Int):Option Bool:=run C k 227 .bool [.val (.list (.int .i64)) aO,.val (.int .i64) iw,.val (.int .i64) eX]
noncomputable def dn.l0 (k m:Nat) (aO:(List Int)) (iw:Int) (eX:Int) (xW:(List Int)) (tK:Int) (nW:Int):Option Bool:=bF C k 227 .bool [0,0,0] [.r,.l,.r,.b] [] [0,1,2,9,10,11] m ⟨[.one (.cell (.list false (.int .i64) aO)),.one (.cell (.int .i64 iw)),.one (.cell (.int .i64 eX)),.one (.cell (.list false (.int .i64) xW)),.one (.cell (.int .i64 tK)),.one (.cell (.int .i64 nW))],[]⟩
noncomputable def aY (k:Nat) (s_0:(List Int)) (v_1:Int):Option Int:=run C k 112 (.int .i64) [.val (.list (.int .i64)) s_0,.val (.int .i64) v_1]
noncomputable def aY.l0 (k m:Nat) (s_0:(List Int)) (v_1:Int) (gX:Int) (ql:Int):Option Int:=bF C k 112 (.int .i64) [0,0] [.r,.l,.r,.b] [] [0,1,7,8] m ⟨[.one (.cell (.list false (.int .i64) s_0)),.one (.cell (.int .i64 v_1)),.one (.cell (.int .i64 gX)),.one (.cell (.int .i64 ql))],[]⟩
noncomputable def aK (k:Nat) (s_0:(List bE)) (qD:Int) (KJ:(List bA)) (KL:Int):Option Int:=run C k 110 (.int .i64) [.val (.aG bD) s_0,.qY 180 [.ro (.int .i64) qD,.ro (.list fF) KJ,.ro (.int .i64) KL]]
noncomputable def aK.l0 (k m:Nat) (s_0:(List bE)) (xY:Int) (Bf:(List bA)) (Bg:Int) (gX:Int) (ql:Int):Option Int:=bF C k 110 (.int .i64) [0,0] [.r,.l,.r,.b] [] [0,1,7,8] m ⟨[.one (.cell (.list false bD s_0)),.one (.cell (.qY 180 [.ro (.int .i64) xY,.ro (.list fF) Bf,.ro (.int .i64) Bg])),.one (.cell (.int .i64 gX)),.one (.cell (.int .i64 ql))],[]⟩
noncomputable def cmp_isNaN_int (k:Nat) (x_0:Int):Option Bool:=run C k 254 .bool [.val (.int .i64) x_0]
noncomputable def oV (k:Nat) (p_0:bE) (a_1:Int) (a_2:(List bA)) (XQ:Int):Option Bool:=run C k 180 .bool [.val bD p_0,.rp (.int .i64) a_1,.rp (.list fF) a_2,.rp (.int .i64) XQ]
noncomputable def vX (k:Nat) (p_0:bE) (l_1:(List bA)) (oz:Int):Option Bool:=run C k 181 .bool [.val bD p_0,.val (.list fF) l_1,.val (.int .i64) oz]
noncomputable def vY (k:Nat) (aO:(List bA)) (kg:Int):Option (List bA):=run C k 83 (.list fF) [.val (.list fF) aO,.val (.int .i64) kg]
noncomputable def dY (k:Nat) (aO:(List bA)) (iw:Int) (eX:Int):Option Bool:=run C k 228 .bool [.val (.list fF) aO,.val (.int .i64) iw,.val (.int .i64) eX]
noncomputable def dY.l0 (k m:Nat) (aO:(List bA)) (iw:Int) (eX:Int) (xW:(List bA)) (tK:Int) (nW:Int):Option Bool:=bF C k 228 .bool [0,0,0] [.r,.l,.r,.b] [] [0,1,2,9,10,11] m ⟨[.one (.cell (.list false fF aO)),.one (.cell (.int .i64 iw)),.one (.cell (.int .i64 eX)),.one (.cell (.list false fF xW)),.one (.cell (.int .i64 tK)),.one (.cell (.int .i64 nW))],[]⟩
noncomputable def aF (k:Nat) (s_0:(List bA)) (qD:Int):Option (List bA):=run C k 185 (.list fF) [.give (.list fF) s_0,.qY 189 [.ro (.int .i64) qD]]
noncomputable def aF.l0 (k m:Nat) (yK:Int) (aU:Int) (Tf:Int) (s0:(List bA)):Option (List bA):=bF C k 185 (.list fF) [0,0] [.r,.r,.r,.l,.r,.b] [] [0,1,5,6] m ⟨[.one (.cell (.ref 1)),.one (.cell (.qY 189 [.ro (.int .i64) yK])),.one (.cell (.int .i64 aU)),.one (.cell (.int .i64 Tf))],[.arr fF s0 .open]⟩
noncomputable def aI (k:Nat) (s_0:(List bA)) (qD:Int):Option Int:=run C k 194 (.int .i64) [.val (.list fF) s_0,.qY 189 [.ro (.int .i64) qD]]
noncomputable def aI.l0 (k m:Nat) (s_0:(List bA)) (xY:Int) (gX:Int) (ql:Int):Option Int:=bF C k 194 (.int .i64) [0,0] [.r,.l,.r,.b] [] [0,1,7,8] m ⟨[.one (.cell (.list false fF s_0)),.one (.cell (.qY 189 [.ro (.int .i64) xY])),.one (.cell (.int .i64 gX)),.one (.cell (.int .i64 ql))],[]⟩
noncomputable def oC (k:Nat) (QX:bA) (a_1:Int):Option Bool:=run C k 189 .bool [.val fF QX,.rp (.int .i64) a_1]
theorem kG (k:Nat) (MR MS):lZ (k+1) MR MS =
 (oQ k MR 1048576).bind fun r1=>
 if (r1:Int)<0 then
 some true
 else (pG k MS r1).bind fun r2=>
 if (r2:Int)<0 then
 some true
 else (jk k MR).bind fun r3=>
 (jX k MS).bind fun r4=>
 (dI k r3 r4).bind fun r5=>
 (jk k MR).bind fun r6=>
 (jX k MS).bind fun r7=>
 (mY k r6 r7).bind fun r8=>
 (jl k r8.1 r5.1).bind fun r9=>
 if ¬ (r9=true) then
 some false
 else if ¬ ((decide (r8.2.1=true))=(decide (r5.2.1=true))) then
 some false
 else (jk k MR).bind fun ZY=>
 (jl k r6 ZY).bind fun r11=>
 if ¬ (r11=true) then
 some false
 else (jX k MS).bind fun r12=>
 (pI k r7 r12).bind fun r13=>
 if ¬ (r13=true) then
 some false
 else (jA k (r6.1,((r6.2.1.1,(r6.2.1.2.1,())),(r6.2.2.1,(r6.2.2.2.1,(r6.2.2.2.2.1,(r6.2.2.2.2.2.1,(r6.2.2.2.2.2.2.1,(r6.2.2.2.2.2.2.2.1,(r6.2.2.2.2.2.2.2.2.1,()))))))))) 1).bind fun r14=>
 (wE k (r7.1,(r7.2.1,(r7.2.2.1,(r7.2.2.2.1,())))) r14.1).bind fun r15=>
 if (r15.1:Int)<0 then
 some false
 else (jl k r8.1 r5.1).bind fun r16=>
 if ¬ (r16=true) then
 some false
 else if ¬ ((decide (r8.2.1=true))=(decide (r5.2.1=true))) then
 some false
 else (jA k (r8.1.1,((r8.1.2.1.1,(r8.1.2.1.2.1,())),(r8.1.2.2.1,(r8.1.2.2.2.1,(r8.1.2.2.2.2.1,(r8.1.2.2.2.2.2.1,(r8.1.2.2.2.2.2.2.1,(r8.1.2.2.2.2.2.2.2.1,(r8.1.2.2.2.2.2.2.2.2.1,()))))))))) 1).bind fun Px=>
 (jB k (Px.2.1,(r8.1.2.1,(Px.2.2.2.1,(Px.2.2.2.2.1,(Px.2.2.2.2.2.1,(Px.2.2.2.2.2.2.1,(Px.2.2.2.2.2.2.2.1,r8.1.2.2.2.2.2.2.2))))))) 1).bind fun Ze=>
 if (Ze:Int)<0 then
 some false
 else if (Ze:Int) ≠ Px.1 then
 some false
 else (jk k MR).bind fun r19=>
 (jX k MS).bind fun r20=>
 (mY k r19 r20).bind fun Zf=>
 (jl k Zf.1 r5.1).bind fun r22=>
 if ¬ (r22=true) then
 some false
 else if ¬ ((decide (Zf.2.1=true))=(decide (r5.2.1=true))) then
 some false
 else (jB k (Px.2.1,(r8.1.2.1,(Px.2.2.2.1,(Px.2.2.2.2.1,(Px.2.2.2.2.2.1,(Px.2.2.2.2.2.2.1,(Px.2.2.2.2.2.2.2.1,r8.1.2.2.2.2.2.2.2))))))) 1).bind fun Zg=>
 if (Zg:Int)<0 then
 some false
 else if (Zg:Int) ≠ Px.1 then
 some false
 else some true:=by kernel_rfl
theorem gD (k:Nat) (a_0 bR):oQ (k+1) a_0 bR =
 (tF k a_0.1 bR).bind fun r1=>
 if (r1:Int)<0 then
 some (-1)
 else (tH k a_0.2.2.1 r1).bind fun r2=>
 if (r2:Int)<0 then
 some (-1)
 else (dW k a_0.2.2.2.1 r2).bind fun r3=>
 if (r3:Int)<0 then
 some (-1)
 else (sM k a_0.2.2.2.2.1 r3).bind fun r4=>
 if (r4:Int)<0 then
 some (-1)
 else (vN k a_0.2.2.2.2.2.1 r4).bind fun r5=>
 if (r5:Int)<0 then
 some (-1)
 else (rM k a_0.2.2.2.2.2.2.1 r5).bind fun r6=>
 if (r6:Int)<0 then
 some (-1)
 else some r6:=by kernel_rfl
theorem uF (k:Nat) (a_0 bR):pG (k+1) a_0 bR =
 (sM k a_0.2.2.2.1 bR).bind fun r1=>
 if (r1:Int)<0 then
 some (-1)
 else some r1:=by kernel_rfl
theorem yQ (k:Nat) (a_0):jk (k+1) a_0 =
 (fT k a_0.1).bind fun r1=>
 (vO k a_0.2.1).bind fun r2=>
 (fU k a_0.2.2.1).bind fun r3=>
 (eG k a_0.2.2.2.1).bind fun r4=>
 (gT k a_0.2.2.2.2.1).bind fun r5=>
 (gK k a_0.2.2.2.2.2.1).bind fun r6=>
 (eH k a_0.2.2.2.2.2.2.1).bind fun r7=>
 some (r1,(r2,(r3,(r4,(r5,(r6,(r7,a_0.2.2.2.2.2.2.2))))))):=by kernel_rfl
theorem CJ (k:Nat) (a_0):jX (k+1) a_0 =
 (gT k a_0.2.2.2.1).bind fun r1=>
 some (a_0.1,(a_0.2.1,(a_0.2.2.1,(r1,())))):=by kernel_rfl
theorem CK (k:Nat) (iL p_1):dI (k+1) iL p_1 =
 (oq k iL).bind fun r1=>
 dI.l0 k k 0 iL.1 iL.2.1.1 iL.2.1.2.1 iL.2.2.1 iL.2.2.2.1 iL.2.2.2.2.1 iL.2.2.2.2.2.1 iL.2.2.2.2.2.2.1 iL.2.2.2.2.2.2.2.1 iL.2.2.2.2.2.2.2.2.1 p_1.1 p_1.2.1 p_1.2.2.1 p_1.2.2.2.1 0 0 0 0 r1.2.1.1 r1.2.1.2.1 r1.2.2.2.2.2.2.2.1 r1.2.2.2.2.2.2.2.2.1 r1.1 r1.2.2.1 r1.2.2.2.1 r1.2.2.2.2.1 r1.2.2.2.2.2.1 r1.2.2.2.2.2.2.1:=by kernel_rfl
theorem dI.aB (k m:Nat) (Ia qQ qg qh qC qR Eb Ec Ed uD uE OE GD GH Qr Uc Ud Ue Uf Qs Qt Qu Qv s4 s5 s6 s7 s8 s9):dI.l0 k (m+1) Ia qQ qg qh qC qR Eb Ec Ed uD uE OE GD GH Qr Uc Ud Ue Uf Qs Qt Qu Qv s4 s5 s6 s7 s8 s9 =
 if (Ia:Int)<((List.length qR:Nat):Int) then
 if 0<=Ia then
 if Ia<((List.length qR:Nat):Int) then
 if LT.lt (α:=Int) (rd bD qR Ia).1 OE then
 dI.l0 k m (IntKind.wrap .i64 (Ia+1)) qQ qg qh qC qR Eb Ec Ed uD uE OE GD GH Qr Uc Ud Ue Uf Qs Qt Qu Qv s4 s5 s6 s7 s8 s9
 else if 0<=Ia then
 if Ia<=((List.length qR:Nat):Int) then
 (bH k (List.take ((Int.toNat Ia) - (Int.toNat 0)) (List.drop (Int.toNat 0) qR))).bind fun r2=>
 (bH k ([(OE,(GD,(GH,(Qr,()))))])).bind fun r3=>
 if (List.length r2+List.length r3)*48<=211106232532992 then
 if 0<=Ia then
 if Ia<=((List.length qR:Nat):Int) then
 (bH k (List.take ((Int.toNat ((List.length qR:Nat):Int)) - (Int.toNat Ia)) (List.drop (Int.toNat Ia) qR))).bind fun r4=>
 if (List.length (r2++r3)+List.length r4)*48<=211106232532992 then
 (kN k (qQ,((qg,(qh,())),(qC,(qR,(Eb,(Ec,(Ed,(uD,(uE,()))))))))) (s4,((Qs,(Qt,())),(s5,(((r2++r3)++r4),(s7,(s8,(s9,(Qu,(Qv,()))))))))) true).bind fun r5=>
 some (r5.1,(decide (r5.2.1=true),())) else none else none else none else none else none else none else none else none
 else if 0<=Ia then
 if Ia<=((List.length qR:Nat):Int) then
 (bH k (List.take ((Int.toNat Ia) - (Int.toNat 0)) (List.drop (Int.toNat 0) qR))).bind fun r6=>
 (bH k ([(OE,(GD,(GH,(Qr,()))))])).bind fun r7=>
 if (List.length r6+List.length r7)*48<=211106232532992 then
 if 0<=Ia then
 if Ia<=((List.length qR:Nat):Int) then
 (bH k (List.take ((Int.toNat ((List.length qR:Nat):Int)) - (Int.toNat Ia)) (List.drop (Int.toNat Ia) qR))).bind fun r8=>
 if (List.length (r6++r7)+List.length r8)*48<=211106232532992 then
 (kN k (qQ,((qg,(qh,())),(qC,(qR,(Eb,(Ec,(Ed,(uD,(uE,()))))))))) (s4,((Qs,(Qt,())),(s5,(((r6++r7)++r8),(s7,(s8,(s9,(Qu,(Qv,()))))))))) true).bind fun r9=>
 some (r9.1,(decide (r9.2.1=true),())) else none else none else none else none else none else none:=by kernel_rfl
theorem CO (k:Nat) (iL p_1):mY (k+1) iL p_1 =
 (oU k iL p_1).bind fun r1=>
 some (r1.1,(decide (r1.2.1=true),())):=by kernel_rfl
theorem yR (k:Nat) (a_0 b_1):jl (k+1) a_0 b_1 =
 (fV k a_0.1 b_1.1).bind fun r1=>
 if ¬ (r1=true) then
 some false
 else (vP k a_0.2.1 b_1.2.1).bind fun r2=>
 if ¬ (r2=true) then
 some false
 else (fZ k a_0.2.2.1 b_1.2.2.1).bind fun r3=>
 if ¬ (r3=true) then
 some false
 else (eO k a_0.2.2.2.1 b_1.2.2.2.1).bind fun r4=>
 if ¬ (r4=true) then
 some false
 else (gU k a_0.2.2.2.2.1 b_1.2.2.2.2.1).bind fun r5=>
 if ¬ (r5=true) then
 some false
 else (gL k a_0.2.2.2.2.2.1 b_1.2.2.2.2.2.1).bind fun r6=>
 if ¬ (r6=true) then
 some false
 else (eP k a_0.2.2.2.2.2.2.1 b_1.2.2.2.2.2.2.1).bind fun r7=>
 if ¬ (r7=true) then
 some false
 else if (a_0.2.2.2.2.2.2.2.1:Int) ≠ b_1.2.2.2.2.2.2.2.1 then
 some false
 else if (a_0.2.2.2.2.2.2.2.2.1:Int) ≠ b_1.2.2.2.2.2.2.2.2.1 then
 some false
 else some true:=by kernel_rfl
theorem CP (k:Nat) (a_0 b_1):pI (k+1) a_0 b_1 =
 if (a_0.1:Int) ≠ b_1.1 then
 some false
 else if (a_0.2.1:Int) ≠ b_1.2.1 then
 some false
 else if (a_0.2.2.1:Int) ≠ b_1.2.2.1 then
 some false
 else (gU k a_0.2.2.2.1 b_1.2.2.2.1).bind fun r1=>
 if ¬ (r1=true) then
 some false
 else some true:=by kernel_rfl
theorem wL (k:Nat) (a_0 bS):jA (k+1) a_0 bS =
 (dQ k a_0.1 bS).bind fun r1=>
 (dR k a_0.2.2.1 r1.1).bind fun r2=>
 (cu k a_0.2.2.2.1 r2.1).bind fun r3=>
 (dZ k a_0.2.2.2.2.1 r3.1).bind fun r4=>
 (eT k a_0.2.2.2.2.2.1 r4.1).bind fun r5=>
 (dD k a_0.2.2.2.2.2.2.1 r5.1).bind fun r6=>
 some (r6.1,(r1.2,(((),((),())),(r2.2,(r3.2,(r4.2,(r5.2,(r6.2,((),((),())))))))))):=by kernel_rfl
theorem zX (k:Nat) (a_0 bS):wE (k+1) a_0 bS =
 (dZ k a_0.2.2.2.1 bS).bind fun r1=>
 some (r1.1,((),((),((),(r1.2,()))))):=by kernel_rfl
theorem wM (k:Nat) (a_0 bS):jB (k+1) a_0 bS =
 (dS k a_0.1 bS).bind fun r1=>
 if (r1:Int)<0 then
 some (-1)
 else (dU k a_0.2.2.1 r1).bind fun r2=>
 if (r2:Int)<0 then
 some (-1)
 else (cB k a_0.2.2.2.1 r2).bind fun r3=>
 if (r3:Int)<0 then
 some (-1)
 else (fq k a_0.2.2.2.2.1 r3).bind fun r4=>
 if (r4:Int)<0 then
 some (-1)
 else (eU k a_0.2.2.2.2.2.1 r4).bind fun r5=>
 if (r5:Int)<0 then
 some (-1)
 else (dF k a_0.2.2.2.2.2.2.1 r5).bind fun r6=>
 if (r6:Int)<0 then
 some (-1)
 else some r6:=by kernel_rfl
theorem uG (k:Nat) (a_0 bR):tF (k+1) a_0 bR =
 if ((IntKind.wrap .i64 (bR - ((List.length a_0:Nat):Int))):Int)<0 then
 some (-1)
 else some (IntKind.wrap .i64 (bR - ((List.length a_0:Nat):Int))):=by kernel_rfl
theorem uH (k:Nat) (a_0 bR):tH (k+1) a_0 bR =
 if ((IntKind.wrap .i64 (bR - ((List.length a_0:Nat):Int))):Int)<0 then
 some (-1)
 else some (IntKind.wrap .i64 (bR - ((List.length a_0:Nat):Int))):=by kernel_rfl
theorem sN (k:Nat) (a_0 bR):dW (k+1) a_0 bR =
 if ((IntKind.wrap .i64 (bR - ((List.length a_0:Nat):Int))):Int)<0 then
 some (-1)
 else dW.l0 k k a_0 (IntKind.wrap .i64 (bR - ((List.length a_0:Nat):Int))) 0:=by kernel_rfl
theorem dW.aB (k m:Nat) (a_0 bR aU):dW.l0 k (m+1) a_0 bR aU =
 if (aU:Int)<((List.length a_0:Nat):Int) then
 if 0<=aU then
 if aU<((List.length a_0:Nat):Int) then
 (pG k (rd bD a_0 aU) bR).bind fun r1=>
 if (r1:Int)<0 then
 some (-1)
 else dW.l0 k m a_0 r1 (IntKind.wrap .i64 (aU+1)) else none else none
 else some bR:=by kernel_rfl
theorem xZ (k:Nat) (a_0 bR):sM (k+1) a_0 bR =
 if ((IntKind.wrap .i64 (bR - ((List.length a_0:Nat):Int))):Int)<0 then
 some (-1)
 else some (IntKind.wrap .i64 (bR - ((List.length a_0:Nat):Int))):=by kernel_rfl
theorem wF (k:Nat) (a_0 bR):vN (k+1) a_0 bR =
 if ((IntKind.wrap .i64 (bR - ((List.length a_0:Nat):Int))):Int)<0 then
 some (-1)
 else some (IntKind.wrap .i64 (bR - ((List.length a_0:Nat):Int))):=by kernel_rfl
theorem sO (k:Nat) (a_0 bR):rM (k+1) a_0 bR =
 if ((IntKind.wrap .i64 (bR - ((List.length a_0:Nat):Int))):Int)<0 then
 some (-1)
 else some (IntKind.wrap .i64 (bR - ((List.length a_0:Nat):Int))):=by kernel_rfl
theorem CQ (k:Nat) (a_0):fT (k+1) a_0 =
 if 0<=((List.length a_0:Nat):Int) then
 if ((List.length a_0:Nat):Int)<=((List.length a_0:Nat):Int) then
 if ((List.length a_0:Nat):Int)*32<=211106232532992 then
 fT.l0 k k a_0 0 (List.replicate (Int.toNat ((List.length a_0:Nat):Int)) (Ty.dflt fF)) else none else none else none:=by kernel_rfl
theorem fT.aB (k m:Nat) (a_0 jR s0):fT.l0 k (m+1) a_0 jR s0 =
 if (jR:Int)<((List.length a_0:Nat):Int) then
 if 0<=jR then
 if jR<((List.length a_0:Nat):Int) then
 (vQ k (rd fF a_0 jR)).bind fun r1=>
 if 0<=jR then
 if jR<((List.length s0:Nat):Int) then
 fT.l0 k m a_0 (IntKind.wrap .i64 (jR+1)) (List.set s0 (Int.toNat jR) r1) else none else none else none else none
 else some s0:=by kernel_rfl
theorem Ee (k:Nat) (a_0):vO (k+1) a_0 =
 some a_0:=by kernel_rfl
theorem CR (k:Nat) (a_0):fU (k+1) a_0 =
 if 0<=((List.length a_0:Nat):Int) then
 if ((List.length a_0:Nat):Int)<=((List.length a_0:Nat):Int) then
 if ((List.length a_0:Nat):Int)*16<=211106232532992 then
 fU.l0 k k a_0 0 (List.replicate (Int.toNat ((List.length a_0:Nat):Int)) (Ty.dflt bT)) else none else none else none:=by kernel_rfl
theorem fU.aB (k m:Nat) (a_0 jR s0):fU.l0 k (m+1) a_0 jR s0 =
 if (jR:Int)<((List.length a_0:Nat):Int) then
 if 0<=jR then
 if jR<((List.length a_0:Nat):Int) then
 (vR k (rd bT a_0 jR)).bind fun r1=>
 if 0<=jR then
 if jR<((List.length s0:Nat):Int) then
 fU.l0 k m a_0 (IntKind.wrap .i64 (jR+1)) (List.set s0 (Int.toNat jR) r1) else none else none else none else none
 else some s0:=by kernel_rfl
theorem Bh (k:Nat) (a_0):eG (k+1) a_0 =
 if 0<=((List.length a_0:Nat):Int) then
 if ((List.length a_0:Nat):Int)<=((List.length a_0:Nat):Int) then
 if ((List.length a_0:Nat):Int)*48<=211106232532992 then
 eG.l0 k k a_0 0 (List.replicate (Int.toNat ((List.length a_0:Nat):Int)) (Ty.dflt bD)) else none else none else none:=by kernel_rfl
theorem eG.aB (k m:Nat) (a_0 jR s0):eG.l0 k (m+1) a_0 jR s0 =
 if (jR:Int)<((List.length a_0:Nat):Int) then
 if 0<=jR then
 if jR<((List.length a_0:Nat):Int) then
 (jX k (rd bD a_0 jR)).bind fun r1=>
 if 0<=jR then
 if jR<((List.length s0:Nat):Int) then
 eG.l0 k m a_0 (IntKind.wrap .i64 (jR+1)) (List.set s0 (Int.toNat jR) r1) else none else none else none else none
 else some s0:=by kernel_rfl
theorem GJ (k:Nat) (a_0):gT (k+1) a_0 =
 if 0<=((List.length a_0:Nat):Int) then
 if ((List.length a_0:Nat):Int)<=((List.length a_0:Nat):Int) then
 if ((List.length a_0:Nat):Int)*8<=211106232532992 then
 gT.l0 k k a_0 0 (List.replicate (Int.toNat ((List.length a_0:Nat):Int)) (Ty.dflt (.int .i64))) else none else none else none:=by kernel_rfl
theorem gT.aB (k m:Nat) (a_0 jR s0):gT.l0 k (m+1) a_0 jR s0 =
 if (jR:Int)<((List.length a_0:Nat):Int) then
 if 0<=jR then
 if jR<((List.length a_0:Nat):Int) then
 if 0<=jR then
 if jR<((List.length s0:Nat):Int) then
 gT.l0 k m a_0 (IntKind.wrap .i64 (jR+1)) (List.set s0 (Int.toNat jR) (rd (.int .i64) a_0 jR)) else none else none else none else none
 else some s0:=by kernel_rfl
theorem Ef (k:Nat) (a_0):gK (k+1) a_0 =
 if 0<=((List.length a_0:Nat):Int) then
 if ((List.length a_0:Nat):Int)<=((List.length a_0:Nat):Int) then
 if ((List.length a_0:Nat):Int)*40<=211106232532992 then
 gK.l0 k k a_0 0 (List.replicate (Int.toNat ((List.length a_0:Nat):Int)) (Ty.dflt gW)) else none else none else none:=by kernel_rfl
theorem gK.aB (k m:Nat) (a_0 jR s0):gK.l0 k (m+1) a_0 jR s0 =
 if (jR:Int)<((List.length a_0:Nat):Int) then
 if 0<=jR then
 if jR<((List.length a_0:Nat):Int) then
 (xV k (rd gW a_0 jR)).bind fun r1=>
 if 0<=jR then
 if jR<((List.length s0:Nat):Int) then
 gK.l0 k m a_0 (IntKind.wrap .i64 (jR+1)) (List.set s0 (Int.toNat jR) r1) else none else none else none else none
 else some s0:=by kernel_rfl
theorem Bj (k:Nat) (a_0):eH (k+1) a_0 =
 if 0<=((List.length a_0:Nat):Int) then
 if ((List.length a_0:Nat):Int)<=((List.length a_0:Nat):Int) then
 if ((List.length a_0:Nat):Int)*16<=211106232532992 then
 eH.l0 k k a_0 0 (List.replicate (Int.toNat ((List.length a_0:Nat):Int)) (Ty.dflt bT)) else none else none else none:=by kernel_rfl
theorem eH.aB (k m:Nat) (a_0 jR s0):eH.l0 k (m+1) a_0 jR s0 =
 if (jR:Int)<((List.length a_0:Nat):Int) then
 if 0<=jR then
 if jR<((List.length a_0:Nat):Int) then
 (tJ k (rd bT a_0 jR)).bind fun r1=>
 if 0<=jR then
 if jR<((List.length s0:Nat):Int) then
 eH.l0 k m a_0 (IntKind.wrap .i64 (jR+1)) (List.set s0 (Int.toNat jR) r1) else none else none else none else none
 else some s0:=by kernel_rfl
theorem Eh (k:Nat) (iL):oq (k+1) iL =
 if (List.length ([]:(List bA))+List.length iL.1)*32<=211106232532992 then
 if (List.length ([]:(List bq))+List.length iL.2.2.1)*16<=211106232532992 then
 (bH k iL.2.2.2.1).bind fun r1=>
 if (List.length ([]:(List Int))+List.length iL.2.2.2.2.1)*8<=211106232532992 then
 if (List.length ([]:(List gy))+List.length iL.2.2.2.2.2.1)*40<=211106232532992 then
 if (List.length ([]:(List bq))+List.length iL.2.2.2.2.2.2.1)*16<=211106232532992 then
 some ((([]:(List bA))++iL.1),(iL.2.1,((([]:(List bq))++iL.2.2.1),(r1,((([]:(List Int))++iL.2.2.2.2.1),((([]:(List gy))++iL.2.2.2.2.2.1),((([]:(List bq))++iL.2.2.2.2.2.2.1),iL.2.2.2.2.2.2.2))))))) else none else none else none else none else none:=by kernel_rfl
theorem Ei (k:Nat) (aO):bH (k+1) aO =
 bH.l0 k k aO 0 []:=by kernel_rfl
theorem bH.aB (k m:Nat) (aO jR s0):bH.l0 k (m+1) aO jR s0 =
 if (jR:Int)<((List.length aO:Nat):Int) then
 if 0<=jR then
 if jR<((List.length aO:Nat):Int) then
 if (List.length ([]:(List Int))+List.length (rd bD aO jR).2.2.2.1)*8<=211106232532992 then
 if (List.length s0+List.length ([((rd bD aO jR).1,((rd bD aO jR).2.1,((rd bD aO jR).2.2.1,((([]:(List Int))++(rd bD aO jR).2.2.2.1),()))))]:(List bE)))*48<=211106232532992 then
 bH.l0 k m aO (IntKind.wrap .i64 (jR+1)) (s0++([((rd bD aO jR).1,((rd bD aO jR).2.1,((rd bD aO jR).2.2.1,((([]:(List Int))++(rd bD aO jR).2.2.2.1),()))))]:(List bE))) else none else none else none else none
 else some s0:=by kernel_rfl
theorem kQ (k:Nat) (iL MU Ug):kN (k+1) iL MU Ug =
 if ¬ (Ug=true) then
 (oq k iL).bind fun r1=>
 some (r1,(false,()))
 else (jm k MU).bind fun r2=>
 if ¬ (r2=true) then
 (oq k iL).bind fun r3=>
 some (r3,(false,()))
 else some (MU,(true,())):=by kernel_rfl
theorem mV (k:Nat) (iL qD):oU (k+1) iL qD =
 (aN k iL).bind fun r1=>
 (bf k r1 qD).bind fun r2=>
 if ¬ (r2.1=true) then
 (aN k iL).bind fun r3=>
 some (r3,(false,()))
 else (fu k r2.2).bind fun r4=>
 if ¬ (r4=true) then
 (aN k iL).bind fun r5=>
 some (r5,(false,()))
 else some (r2.2,(true,())):=by kernel_rfl
theorem CS (k:Nat) (a_0 b_1):fV (k+1) a_0 b_1 =
 if (((List.length a_0:Nat):Int):Int) ≠ ((List.length b_1:Nat):Int) then
 some false
 else fV.l0 k k a_0 b_1 0:=by kernel_rfl
theorem fV.aB (k m:Nat) (a_0 b_1 aU):fV.l0 k (m+1) a_0 b_1 aU =
 if (aU:Int)<((List.length a_0:Nat):Int) then
 if 0<=aU then
 if aU<((List.length a_0:Nat):Int) then
 if 0<=aU then
 if aU<((List.length b_1:Nat):Int) then
 (vS k (rd fF a_0 aU) (rd fF b_1 aU)).bind fun r1=>
 if ¬ (r1=true) then
 some false
 else fV.l0 k m a_0 b_1 (IntKind.wrap .i64 (aU+1)) else none else none else none else none
 else some true:=by kernel_rfl
theorem Ej (k:Nat) (a_0 b_1):vP (k+1) a_0 b_1 =
 if (a_0.1:Int) ≠ b_1.1 then
 some false
 else if (a_0.2.1:Int) ≠ b_1.2.1 then
 some false
 else some true:=by kernel_rfl
theorem CU (k:Nat) (a_0 b_1):fZ (k+1) a_0 b_1 =
 if (((List.length a_0:Nat):Int):Int) ≠ ((List.length b_1:Nat):Int) then
 some false
 else fZ.l0 k k a_0 b_1 0:=by kernel_rfl
theorem fZ.aB (k m:Nat) (a_0 b_1 aU):fZ.l0 k (m+1) a_0 b_1 aU =
 if (aU:Int)<((List.length a_0:Nat):Int) then
 if 0<=aU then
 if aU<((List.length a_0:Nat):Int) then
 if 0<=aU then
 if aU<((List.length b_1:Nat):Int) then
 (vT k (rd bT a_0 aU) (rd bT b_1 aU)).bind fun r1=>
 if ¬ (r1=true) then
 some false
 else fZ.l0 k m a_0 b_1 (IntKind.wrap .i64 (aU+1)) else none else none else none else none
 else some true:=by kernel_rfl
theorem Bl (k:Nat) (a_0 b_1):eO (k+1) a_0 b_1 =
 if (((List.length a_0:Nat):Int):Int) ≠ ((List.length b_1:Nat):Int) then
 some false
 else eO.l0 k k a_0 b_1 0:=by kernel_rfl
theorem eO.aB (k m:Nat) (a_0 b_1 aU):eO.l0 k (m+1) a_0 b_1 aU =
 if (aU:Int)<((List.length a_0:Nat):Int) then
 if 0<=aU then
 if aU<((List.length a_0:Nat):Int) then
 if 0<=aU then
 if aU<((List.length b_1:Nat):Int) then
 (pI k (rd bD a_0 aU) (rd bD b_1 aU)).bind fun r1=>
 if ¬ (r1=true) then
 some false
 else eO.l0 k m a_0 b_1 (IntKind.wrap .i64 (aU+1)) else none else none else none else none
 else some true:=by kernel_rfl
theorem GK (k:Nat) (a_0 b_1):gU (k+1) a_0 b_1 =
 if (((List.length a_0:Nat):Int):Int) ≠ ((List.length b_1:Nat):Int) then
 some false
 else gU.l0 k k a_0 b_1 0:=by kernel_rfl
theorem gU.aB (k m:Nat) (a_0 b_1 aU):gU.l0 k (m+1) a_0 b_1 aU =
 if (aU:Int)<((List.length a_0:Nat):Int) then
 if 0<=aU then
 if aU<((List.length a_0:Nat):Int) then
 if 0<=aU then
 if aU<((List.length b_1:Nat):Int) then
 if Ne (α:=Int) (rd (.int .i64) a_0 aU) (rd (.int .i64) b_1 aU) then
 some false
 else gU.l0 k m a_0 b_1 (IntKind.wrap .i64 (aU+1)) else none else none else none else none
 else some true:=by kernel_rfl
theorem El (k:Nat) (a_0 b_1):gL (k+1) a_0 b_1 =
 if (((List.length a_0:Nat):Int):Int) ≠ ((List.length b_1:Nat):Int) then
 some false
 else gL.l0 k k a_0 b_1 0:=by kernel_rfl
theorem gL.aB (k m:Nat) (a_0 b_1 aU):gL.l0 k (m+1) a_0 b_1 aU =
 if (aU:Int)<((List.length a_0:Nat):Int) then
 if 0<=aU then
 if aU<((List.length a_0:Nat):Int) then
 if 0<=aU then
 if aU<((List.length b_1:Nat):Int) then
 (xX k (rd gW a_0 aU) (rd gW b_1 aU)).bind fun r1=>
 if ¬ (r1=true) then
 some false
 else gL.l0 k m a_0 b_1 (IntKind.wrap .i64 (aU+1)) else none else none else none else none
 else some true:=by kernel_rfl
theorem Bn (k:Nat) (a_0 b_1):eP (k+1) a_0 b_1 =
 if (((List.length a_0:Nat):Int):Int) ≠ ((List.length b_1:Nat):Int) then
 some false
 else eP.l0 k k a_0 b_1 0:=by kernel_rfl
theorem eP.aB (k m:Nat) (a_0 b_1 aU):eP.l0 k (m+1) a_0 b_1 aU =
 if (aU:Int)<((List.length a_0:Nat):Int) then
 if 0<=aU then
 if aU<((List.length a_0:Nat):Int) then
 if 0<=aU then
 if aU<((List.length b_1:Nat):Int) then
 (tL k (rd bT a_0 aU) (rd bT b_1 aU)).bind fun r1=>
 if ¬ (r1=true) then
 some false
 else eP.l0 k m a_0 b_1 (IntKind.wrap .i64 (aU+1)) else none else none else none else none
 else some true:=by kernel_rfl
theorem zY (k:Nat) (a_0 bS):dQ (k+1) a_0 bS =
 dQ.l0 k k bS 0 a_0:=by kernel_rfl
theorem dQ.aB (k m:Nat) (bS aU s0):dQ.l0 k (m+1) bS aU s0 =
 if (aU:Int)<((List.length s0:Nat):Int) then
 if 0<=aU then
 if aU<((List.length s0:Nat):Int) then
 if 0<=aU then
 if aU<((List.length (setAt fF s0 aU (fun yy=>(bS,yy.2))):Nat):Int) then
 if 0<=aU then
 if aU<((List.length (setAt fF (setAt fF s0 aU (fun yy=>(bS,yy.2))) aU (fun yy=>(yy.1,(IntKind.wrap .i64 (bS+1),yy.2.2)))):Nat):Int) then
 if 0<=aU then
 if aU<((List.length (setAt fF (setAt fF (setAt fF s0 aU (fun yy=>(bS,yy.2))) aU (fun yy=>(yy.1,(IntKind.wrap .i64 (bS+1),yy.2.2)))) aU (fun yy=>(yy.1,(yy.2.1,(IntKind.wrap .i64 ((IntKind.wrap .i64 (bS+1))+1),yy.2.2.2))))):Nat):Int) then
 dQ.l0 k m (IntKind.wrap .i64 ((IntKind.wrap .i64 ((IntKind.wrap .i64 ((IntKind.wrap .i64 (bS+1))+1))+1))+1)) (IntKind.wrap .i64 (aU+1)) (setAt fF (setAt fF (setAt fF (setAt fF s0 aU (fun yy=>(bS,yy.2))) aU (fun yy=>(yy.1,(IntKind.wrap .i64 (bS+1),yy.2.2)))) aU (fun yy=>(yy.1,(yy.2.1,(IntKind.wrap .i64 ((IntKind.wrap .i64 (bS+1))+1),yy.2.2.2))))) aU (fun yy=>(yy.1,(yy.2.1,(yy.2.2.1,(IntKind.wrap .i64 ((IntKind.wrap .i64 ((IntKind.wrap .i64 (bS+1))+1))+1),())))))) else none else none else none else none else none else none else none else none
 else some (bS,s0):=by kernel_rfl
theorem zZ (k:Nat) (a_0 bS):dR (k+1) a_0 bS =
 dR.l0 k k bS 0 a_0:=by kernel_rfl
theorem dR.aB (k m:Nat) (bS aU s0):dR.l0 k (m+1) bS aU s0 =
 if (aU:Int)<((List.length s0:Nat):Int) then
 if 0<=aU then
 if aU<((List.length s0:Nat):Int) then
 if 0<=aU then
 if aU<((List.length (setAt bT s0 aU (fun yy=>(bS,yy.2))):Nat):Int) then
 dR.l0 k m (IntKind.wrap .i64 ((IntKind.wrap .i64 (bS+1))+1)) (IntKind.wrap .i64 (aU+1)) (setAt bT (setAt bT s0 aU (fun yy=>(bS,yy.2))) aU (fun yy=>(yy.1,(IntKind.wrap .i64 (bS+1),())))) else none else none else none else none
 else some (bS,s0):=by kernel_rfl
theorem yS (k:Nat) (a_0 bS):cu (k+1) a_0 bS =
 cu.l0 k k bS 0 a_0:=by kernel_rfl
theorem cu.aB (k m:Nat) (bS aU s0):cu.l0 k (m+1) bS aU s0 =
 if (aU:Int)<((List.length s0:Nat):Int) then
 if 0<=aU then
 if aU<((List.length s0:Nat):Int) then
 if 0<=aU then
 if aU<((List.length (setAt bD s0 aU (fun yy=>(bS,yy.2))):Nat):Int) then
 if 0<=aU then
 if aU<((List.length (setAt bD (setAt bD s0 aU (fun yy=>(bS,yy.2))) aU (fun yy=>(yy.1,(IntKind.wrap .i64 (bS+1),yy.2.2)))):Nat):Int) then
 if 0<=aU then
 if aU<((List.length (setAt bD (setAt bD (setAt bD s0 aU (fun yy=>(bS,yy.2))) aU (fun yy=>(yy.1,(IntKind.wrap .i64 (bS+1),yy.2.2)))) aU (fun yy=>(yy.1,(yy.2.1,(IntKind.wrap .i64 ((IntKind.wrap .i64 (bS+1))+1),yy.2.2.2))))):Nat):Int) then
 (dZ k (rd bD (setAt bD (setAt bD (setAt bD s0 aU (fun yy=>(bS,yy.2))) aU (fun yy=>(yy.1,(IntKind.wrap .i64 (bS+1),yy.2.2)))) aU (fun yy=>(yy.1,(yy.2.1,(IntKind.wrap .i64 ((IntKind.wrap .i64 (bS+1))+1),yy.2.2.2))))) aU).2.2.2.1 (IntKind.wrap .i64 ((IntKind.wrap .i64 ((IntKind.wrap .i64 (bS+1))+1))+1))).bind fun r1=>
 cu.l0 k m r1.1 (IntKind.wrap .i64 (aU+1)) (setAt bD (setAt bD (setAt bD (setAt bD s0 aU (fun yy=>(bS,yy.2))) aU (fun yy=>(yy.1,(IntKind.wrap .i64 (bS+1),yy.2.2)))) aU (fun yy=>(yy.1,(yy.2.1,(IntKind.wrap .i64 ((IntKind.wrap .i64 (bS+1))+1),yy.2.2.2))))) aU (fun yy=>(yy.1,(yy.2.1,(yy.2.2.1,(r1.2,yy.2.2.2.2)))))) else none else none else none else none else none else none else none else none
 else some (bS,s0):=by kernel_rfl
theorem CV (k:Nat) (a_0 bS):dZ (k+1) a_0 bS =
 dZ.l0 k k bS 0 a_0:=by kernel_rfl
theorem dZ.aB (k m:Nat) (bS aU s0):dZ.l0 k (m+1) bS aU s0 =
 if (aU:Int)<((List.length s0:Nat):Int) then
 if 0<=aU then
 if aU<((List.length s0:Nat):Int) then
 dZ.l0 k m (IntKind.wrap .i64 (bS+1)) (IntKind.wrap .i64 (aU+1)) (List.set s0 (Int.toNat aU) bS) else none else none
 else some (bS,s0):=by kernel_rfl
theorem Bo (k:Nat) (a_0 bS):eT (k+1) a_0 bS =
 eT.l0 k k bS 0 a_0:=by kernel_rfl
theorem eT.aB (k m:Nat) (bS aU s0):eT.l0 k (m+1) bS aU s0 =
 if (aU:Int)<((List.length s0:Nat):Int) then
 if 0<=aU then
 if aU<((List.length s0:Nat):Int) then
 if 0<=aU then
 if aU<((List.length (setAt gW s0 aU (fun yy=>(bS,yy.2))):Nat):Int) then
 if 0<=aU then
 if aU<((List.length (setAt gW (setAt gW s0 aU (fun yy=>(bS,yy.2))) aU (fun yy=>(yy.1,(IntKind.wrap .i64 (bS+1),yy.2.2)))):Nat):Int) then
 if 0<=aU then
 if aU<((List.length (setAt gW (setAt gW (setAt gW s0 aU (fun yy=>(bS,yy.2))) aU (fun yy=>(yy.1,(IntKind.wrap .i64 (bS+1),yy.2.2)))) aU (fun yy=>(yy.1,(yy.2.1,(IntKind.wrap .i64 ((IntKind.wrap .i64 (bS+1))+1),yy.2.2.2))))):Nat):Int) then
 if 0<=aU then
 if aU<((List.length (setAt gW (setAt gW (setAt gW (setAt gW s0 aU (fun yy=>(bS,yy.2))) aU (fun yy=>(yy.1,(IntKind.wrap .i64 (bS+1),yy.2.2)))) aU (fun yy=>(yy.1,(yy.2.1,(IntKind.wrap .i64 ((IntKind.wrap .i64 (bS+1))+1),yy.2.2.2))))) aU (fun yy=>(yy.1,(yy.2.1,(yy.2.2.1,(IntKind.wrap .i64 ((IntKind.wrap .i64 ((IntKind.wrap .i64 (bS+1))+1))+1),yy.2.2.2.2)))))):Nat):Int) then
 eT.l0 k m (IntKind.wrap .i64 ((IntKind.wrap .i64 ((IntKind.wrap .i64 ((IntKind.wrap .i64 ((IntKind.wrap .i64 (bS+1))+1))+1))+1))+1)) (IntKind.wrap .i64 (aU+1)) (setAt gW (setAt gW (setAt gW (setAt gW (setAt gW s0 aU (fun yy=>(bS,yy.2))) aU (fun yy=>(yy.1,(IntKind.wrap .i64 (bS+1),yy.2.2)))) aU (fun yy=>(yy.1,(yy.2.1,(IntKind.wrap .i64 ((IntKind.wrap .i64 (bS+1))+1),yy.2.2.2))))) aU (fun yy=>(yy.1,(yy.2.1,(yy.2.2.1,(IntKind.wrap .i64 ((IntKind.wrap .i64 ((IntKind.wrap .i64 (bS+1))+1))+1),yy.2.2.2.2)))))) aU (fun yy=>(yy.1,(yy.2.1,(yy.2.2.1,(yy.2.2.2.1,(IntKind.wrap .i64 ((IntKind.wrap .i64 ((IntKind.wrap .i64 ((IntKind.wrap .i64 (bS+1))+1))+1))+1),()))))))) else none else none else none else none else none else none else none else none else none else none
 else some (bS,s0):=by kernel_rfl
theorem yT (k:Nat) (a_0 bS):dD (k+1) a_0 bS =
 dD.l0 k k bS 0 a_0:=by kernel_rfl
theorem dD.aB (k m:Nat) (bS aU s0):dD.l0 k (m+1) bS aU s0 =
 if (aU:Int)<((List.length s0:Nat):Int) then
 if 0<=aU then
 if aU<((List.length s0:Nat):Int) then
 if 0<=aU then
 if aU<((List.length (setAt bT s0 aU (fun yy=>(bS,yy.2))):Nat):Int) then
 dD.l0 k m (IntKind.wrap .i64 ((IntKind.wrap .i64 (bS+1))+1)) (IntKind.wrap .i64 (aU+1)) (setAt bT (setAt bT s0 aU (fun yy=>(bS,yy.2))) aU (fun yy=>(yy.1,(IntKind.wrap .i64 (bS+1),())))) else none else none else none else none
 else some (bS,s0):=by kernel_rfl
theorem Aa (k:Nat) (a_0 bS):dS (k+1) a_0 bS =
 dS.l0 k k a_0 bS 0:=by kernel_rfl
theorem dS.aB (k m:Nat) (a_0 bS aU):dS.l0 k (m+1) a_0 bS aU =
 if (aU:Int)<((List.length a_0:Nat):Int) then
 if 0<=aU then
 if aU<((List.length a_0:Nat):Int) then
 if Ne (α:=Int) (rd fF a_0 aU).1 bS then
 some (-1)
 else if 0<=aU then
 if aU<((List.length a_0:Nat):Int) then
 if Ne (α:=Int) (rd fF a_0 aU).2.1 (IntKind.wrap .i64 (bS+1)) then
 some (-1)
 else if 0<=aU then
 if aU<((List.length a_0:Nat):Int) then
 if Ne (α:=Int) (rd fF a_0 aU).2.2.1 (IntKind.wrap .i64 ((IntKind.wrap .i64 (bS+1))+1)) then
 some (-1)
 else if 0<=aU then
 if aU<((List.length a_0:Nat):Int) then
 if Ne (α:=Int) (rd fF a_0 aU).2.2.2.1 (IntKind.wrap .i64 ((IntKind.wrap .i64 ((IntKind.wrap .i64 (bS+1))+1))+1)) then
 some (-1)
 else dS.l0 k m a_0 (IntKind.wrap .i64 ((IntKind.wrap .i64 ((IntKind.wrap .i64 ((IntKind.wrap .i64 (bS+1))+1))+1))+1)) (IntKind.wrap .i64 (aU+1)) else none else none else none else none else none else none else none else none
 else some bS:=by kernel_rfl
theorem Ab (k:Nat) (a_0 bS):dU (k+1) a_0 bS =
 dU.l0 k k a_0 bS 0:=by kernel_rfl
theorem dU.aB (k m:Nat) (a_0 bS aU):dU.l0 k (m+1) a_0 bS aU =
 if (aU:Int)<((List.length a_0:Nat):Int) then
 if 0<=aU then
 if aU<((List.length a_0:Nat):Int) then
 if Ne (α:=Int) (rd bT a_0 aU).1 bS then
 some (-1)
 else if 0<=aU then
 if aU<((List.length a_0:Nat):Int) then
 if Ne (α:=Int) (rd bT a_0 aU).2.1 (IntKind.wrap .i64 (bS+1)) then
 some (-1)
 else dU.l0 k m a_0 (IntKind.wrap .i64 ((IntKind.wrap .i64 (bS+1))+1)) (IntKind.wrap .i64 (aU+1)) else none else none else none else none
 else some bS:=by kernel_rfl
theorem yU (k:Nat) (a_0 bS):cB (k+1) a_0 bS =
 cB.l0 k k a_0 bS 0:=by kernel_rfl
theorem cB.aB (k m:Nat) (a_0 bS aU):cB.l0 k (m+1) a_0 bS aU =
 if (aU:Int)<((List.length a_0:Nat):Int) then
 if 0<=aU then
 if aU<((List.length a_0:Nat):Int) then
 if Ne (α:=Int) (rd bD a_0 aU).1 bS then
 some (-1)
 else if 0<=aU then
 if aU<((List.length a_0:Nat):Int) then
 if Ne (α:=Int) (rd bD a_0 aU).2.1 (IntKind.wrap .i64 (bS+1)) then
 some (-1)
 else if 0<=aU then
 if aU<((List.length a_0:Nat):Int) then
 if Ne (α:=Int) (rd bD a_0 aU).2.2.1 (IntKind.wrap .i64 ((IntKind.wrap .i64 (bS+1))+1)) then
 some (-1)
 else if 0<=aU then
 if aU<((List.length a_0:Nat):Int) then
 (fq k (rd bD a_0 aU).2.2.2.1 (IntKind.wrap .i64 ((IntKind.wrap .i64 ((IntKind.wrap .i64 (bS+1))+1))+1))).bind fun r1=>
 if (r1:Int)<0 then
 some (-1)
 else cB.l0 k m a_0 r1 (IntKind.wrap .i64 (aU+1)) else none else none else none else none else none else none else none else none
 else some bS:=by kernel_rfl
theorem CW (k:Nat) (a_0 bS):fq (k+1) a_0 bS =
 fq.l0 k k a_0 bS 0:=by kernel_rfl
theorem fq.aB (k m:Nat) (a_0 bS aU):fq.l0 k (m+1) a_0 bS aU =
 if (aU:Int)<((List.length a_0:Nat):Int) then
 if 0<=aU then
 if aU<((List.length a_0:Nat):Int) then
 if Ne (α:=Int) (rd (.int .i64) a_0 aU) bS then
 some (-1)
 else fq.l0 k m a_0 (IntKind.wrap .i64 (bS+1)) (IntKind.wrap .i64 (aU+1)) else none else none
 else some bS:=by kernel_rfl
theorem Bp (k:Nat) (a_0 bS):eU (k+1) a_0 bS =
 eU.l0 k k a_0 bS 0:=by kernel_rfl
theorem eU.aB (k m:Nat) (a_0 bS aU):eU.l0 k (m+1) a_0 bS aU =
 if (aU:Int)<((List.length a_0:Nat):Int) then
 if 0<=aU then
 if aU<((List.length a_0:Nat):Int) then
 if Ne (α:=Int) (rd gW a_0 aU).1 bS then
 some (-1)
 else if 0<=aU then
 if aU<((List.length a_0:Nat):Int) then
 if Ne (α:=Int) (rd gW a_0 aU).2.1 (IntKind.wrap .i64 (bS+1)) then
 some (-1)
 else if 0<=aU then
 if aU<((List.length a_0:Nat):Int) then
 if Ne (α:=Int) (rd gW a_0 aU).2.2.1 (IntKind.wrap .i64 ((IntKind.wrap .i64 (bS+1))+1)) then
 some (-1)
 else if 0<=aU then
 if aU<((List.length a_0:Nat):Int) then
 if Ne (α:=Int) (rd gW a_0 aU).2.2.2.1 (IntKind.wrap .i64 ((IntKind.wrap .i64 ((IntKind.wrap .i64 (bS+1))+1))+1)) then
 some (-1)
 else if 0<=aU then
 if aU<((List.length a_0:Nat):Int) then
 if Ne (α:=Int) (rd gW a_0 aU).2.2.2.2.1 (IntKind.wrap .i64 ((IntKind.wrap .i64 ((IntKind.wrap .i64 ((IntKind.wrap .i64 (bS+1))+1))+1))+1)) then
 some (-1)
 else eU.l0 k m a_0 (IntKind.wrap .i64 ((IntKind.wrap .i64 ((IntKind.wrap .i64 ((IntKind.wrap .i64 ((IntKind.wrap .i64 (bS+1))+1))+1))+1))+1)) (IntKind.wrap .i64 (aU+1)) else none else none else none else none else none else none else none else none else none else none
 else some bS:=by kernel_rfl
theorem yV (k:Nat) (a_0 bS):dF (k+1) a_0 bS =
 dF.l0 k k a_0 bS 0:=by kernel_rfl
theorem dF.aB (k m:Nat) (a_0 bS aU):dF.l0 k (m+1) a_0 bS aU =
 if (aU:Int)<((List.length a_0:Nat):Int) then
 if 0<=aU then
 if aU<((List.length a_0:Nat):Int) then
 if Ne (α:=Int) (rd bT a_0 aU).1 bS then
 some (-1)
 else if 0<=aU then
 if aU<((List.length a_0:Nat):Int) then
 if Ne (α:=Int) (rd bT a_0 aU).2.1 (IntKind.wrap .i64 (bS+1)) then
 some (-1)
 else dF.l0 k m a_0 (IntKind.wrap .i64 ((IntKind.wrap .i64 (bS+1))+1)) (IntKind.wrap .i64 (aU+1)) else none else none else none else none
 else some bS:=by kernel_rfl
theorem Em (k:Nat) (a_0):vQ (k+1) a_0 =
 some a_0:=by kernel_rfl
theorem En (k:Nat) (a_0):vR (k+1) a_0 =
 some a_0:=by kernel_rfl
theorem GL (k:Nat) (a_0):xV (k+1) a_0 =
 some a_0:=by kernel_rfl
theorem CX (k:Nat) (a_0):tJ (k+1) a_0 =
 some a_0:=by kernel_rfl
theorem fD (k:Nat) (iL):jm (k+1) iL =
 (dw k iL.1).bind fun r1=>
 if r1=true then
 (vU k iL.2.1).bind fun r2=>
 if r2=true then
 (dN k iL.2.2.1).bind fun r3=>
 if r3=true then
 (dJ k iL.2.2.2.2.2.1).bind fun r4=>
 if r4=true then
 (cO k iL.2.2.2.2.2.2.1).bind fun r5=>
 if r5=true then
 (aM k iL.2.2.2.1 iL.1 iL.2.2.2.2.1).bind fun r6=>
 if r6=true then
 (fB k iL.2.2.2.2.2.2.2.1 1 9999).bind fun r7=>
 if r7=true then
 (fB k iL.2.2.2.2.2.2.2.2.1 0 100000).bind fun r8=>
 some (decide (r8=true))
 else some false
 else some false
 else some false
 else some false
 else some false
 else some false
 else some false:=by kernel_rfl
theorem rU (k:Nat) (iL):aN (k+1) iL =
 aN.l0 k k iL.2.2.2.1 ((List.length iL.2.2.2.1:Nat):Int) 0 iL.1 iL.2.1.1 iL.2.1.2.1 iL.2.2.1 iL.2.2.2.1 iL.2.2.2.2.1 iL.2.2.2.2.2.1 iL.2.2.2.2.2.2.1 iL.2.2.2.2.2.2.2.1 iL.2.2.2.2.2.2.2.2.1 0 0 0 0 []:=by kernel_rfl
theorem aN.aB (k m:Nat) (ql xW tK qQ qg qh qC qR Eb Ec Ed uD uE GD GH Uh Ui s2):aN.l0 k (m+1) ql xW tK qQ qg qh qC qR Eb Ec Ed uD uE GD GH Uh Ui s2 =
 if (tK:Int)<xW then
 if 0<=tK then
 if tK<((List.length ql:Nat):Int) then
 (mO k (rd bD ql tK)).bind fun r1=>
 if (List.length s2+List.length ([r1]:(List bE)))*48<=211106232532992 then
 aN.l0 k m ql xW (IntKind.wrap .i64 (tK+1)) qQ qg qh qC qR Eb Ec Ed uD uE GD GH Uh Ui (s2++([r1]:(List bE))) else none else none else none
 else (jE k qQ).bind fun r2=>
 (lC k qC).bind fun r3=>
 (ou k Eb).bind fun r4=>
 (mg k Ec).bind fun r5=>
 (kP k Ed).bind fun r6=>
 some (r2,((qg,(qh,())),(r3,(s2,(r4,(r5,(r6,(uD,(uE,()))))))))):=by kernel_rfl
theorem rQ (k:Nat) (iL a_1):bf (k+1) iL a_1 =
 bf.l0 k k a_1 0 ((List.length iL.2.2.2.1:Nat):Int) 0 iL.2.1.1 iL.2.1.2.1 iL.2.2.2.2.2.2.2.1 iL.2.2.2.2.2.2.2.2.1 iL.2.2.2.1 iL.1 iL.2.2.1 iL.2.2.2.2.1 iL.2.2.2.2.2.1 iL.2.2.2.2.2.2.1:=by kernel_rfl
theorem bf.aB (k m:Nat) (t_1 KH nW Iz qg qh uD uE s1 s2 s3 s4 s5 s6):bf.l0 k (m+1) t_1 KH nW Iz qg qh uD uE s1 s2 s3 s4 s5 s6 =
 if (Iz:Int)<nW then
 if 0<=Iz then
 if Iz<((List.length s1:Nat):Int) then
 if Eq (α:=Int) (rd bD s1 Iz).1 t_1.1 then
 some (false,(s2,((qg,(qh,())),(s3,(s1,(s4,(s5,(s6,(uD,(uE,()))))))))))
 else if LT.lt (α:=Int) (rd bD s1 Iz).1 t_1.1 then
 bf.l0 k m t_1 (IntKind.wrap .i64 (KH+1)) nW (IntKind.wrap .i64 (Iz+1)) qg qh uD uE s1 s2 s3 s4 s5 s6
 else bf.l0 k m t_1 KH nW (IntKind.wrap .i64 (Iz+1)) qg qh uD uE s1 s2 s3 s4 s5 s6 else none else none
 else (mO k t_1).bind fun r1=>
 if 0<=KH then
 if KH<=((List.length s1:Nat):Int) then
 if (List.length s1+1)*48<=140737488355328 then
 some (true,(s2,((qg,(qh,())),(s3,((List.take (Int.toNat KH) s1++[r1]++List.drop (Int.toNat KH) s1),(s4,(s5,(s6,(uD,(uE,())))))))))) else none else none else none:=by kernel_rfl
theorem dP (k:Nat) (iL):fu (k+1) iL =
 (dx k iL.1).bind fun r1=>
 if r1=true then
 (vV k iL.2.1).bind fun r2=>
 if r2=true then
 (dO k iL.2.2.1).bind fun r3=>
 if r3=true then
 (dK k iL.2.2.2.2.2.1).bind fun r4=>
 if r4=true then
 (cZ k iL.2.2.2.2.2.2.1).bind fun r5=>
 if r5=true then
 (dH k iL.2.2.2.1 iL.1 iL.2.2.2.2.1).bind fun r6=>
 if r6=true then
 (bC k iL.2.2.2.2.2.2.2.1 1 9999).bind fun r7=>
 if r7=true then
 (bC k iL.2.2.2.2.2.2.2.2.1 0 100000).bind fun r8=>
 some (decide (r8=true))
 else some false
 else some false
 else some false
 else some false
 else some false
 else some false
 else some false:=by kernel_rfl
theorem Eo (k:Nat) (a_0 b_1):vS (k+1) a_0 b_1 =
 if (a_0.1:Int) ≠ b_1.1 then
 some false
 else if (a_0.2.1:Int) ≠ b_1.2.1 then
 some false
 else if (a_0.2.2.1:Int) ≠ b_1.2.2.1 then
 some false
 else if (a_0.2.2.2.1:Int) ≠ b_1.2.2.2.1 then
 some false
 else some true:=by kernel_rfl
theorem Ep (k:Nat) (a_0 b_1):vT (k+1) a_0 b_1 =
 if (a_0.1:Int) ≠ b_1.1 then
 some false
 else if (a_0.2.1:Int) ≠ b_1.2.1 then
 some false
 else some true:=by kernel_rfl
theorem GN (k:Nat) (a_0 b_1):xX (k+1) a_0 b_1 =
 if (a_0.1:Int) ≠ b_1.1 then
 some false
 else if (a_0.2.1:Int) ≠ b_1.2.1 then
 some false
 else if (a_0.2.2.1:Int) ≠ b_1.2.2.1 then
 some false
 else if (a_0.2.2.2.1:Int) ≠ b_1.2.2.2.1 then
 some false
 else if (a_0.2.2.2.2.1:Int) ≠ b_1.2.2.2.2.1 then
 some false
 else some true:=by kernel_rfl
theorem CY (k:Nat) (a_0 b_1):tL (k+1) a_0 b_1 =
 if (a_0.1:Int) ≠ b_1.1 then
 some false
 else if (a_0.2.1:Int) ≠ b_1.2.1 then
 some false
 else some true:=by kernel_rfl
theorem Er (k:Nat) (aO):dw (k+1) aO =
 dw.l0 k k aO 0:=by kernel_rfl
theorem dw.aB (k m:Nat) (aO gV):dw.l0 k (m+1) aO gV =
 if (gV:Int)<((List.length aO:Nat):Int) then
 if 0<=gV then
 if gV<((List.length aO:Nat):Int) then
 (CF k (rd fF aO gV)).bind fun r1=>
 if ¬ (r1=true) then
 some false
 else if (0:Int)<gV then
 if 0<=(IntKind.wrap .i64 (gV - 1)) then
 if (IntKind.wrap .i64 (gV - 1))<((List.length aO:Nat):Int) then
 if 0<=gV then
 if gV<((List.length aO:Nat):Int) then
 (tN k (rd fF aO (IntKind.wrap .i64 (gV - 1))) (rd fF aO gV)).bind fun r2=>
 if ¬ (r2=true) then
 some false
 else dw.l0 k m aO (IntKind.wrap .i64 (gV+1)) else none else none else none else none
 else dw.l0 k m aO (IntKind.wrap .i64 (gV+1)) else none else none
 else some (decide ((((List.length aO:Nat):Int):Int)<=40)):=by kernel_rfl
theorem kR (k:Nat) (MV):vU (k+1) MV =
 (fB k MV.1 1 12).bind fun r1=>
 if r1=true then
 if (MV.2.1:Int)=1 then
 some true
 else if (MV.2.1:Int)=2 then
 some true
 else if (MV.2.1:Int)=4 then
 some true
 else some (decide ((MV.2.1:Int)=8))
 else some false:=by kernel_rfl
theorem Es (k:Nat) (aO):dN (k+1) aO =
 dN.l0 k k aO 0:=by kernel_rfl
theorem dN.aB (k m:Nat) (aO gV):dN.l0 k (m+1) aO gV =
 if (gV:Int)<((List.length aO:Nat):Int) then
 if 0<=gV then
 if gV<((List.length aO:Nat):Int) then
 (fB k (rd bT aO gV).2.1 20 300).bind fun r1=>
 if ¬ (r1=true) then
 some false
 else if 0<=gV then
 if gV<((List.length aO:Nat):Int) then
 (fB k (rd bT aO gV).1 0 2000).bind fun r2=>
 if ¬ (r2=true) then
 some false
 else if (gV:Int)=0 then
 if 0<=gV then
 if gV<((List.length aO:Nat):Int) then
 if Ne (α:=Int) (rd bT aO gV).1 0 then
 some false
 else if (0:Int)<gV then
 if 0<=(IntKind.wrap .i64 (gV - 1)) then
 if (IntKind.wrap .i64 (gV - 1))<((List.length aO:Nat):Int) then
 if 0<=gV then
 if gV<((List.length aO:Nat):Int) then
 if LE.le (α:=Int) (rd bT aO gV).1 (rd bT aO (IntKind.wrap .i64 (gV - 1))).1 then
 some false
 else dN.l0 k m aO (IntKind.wrap .i64 (gV+1)) else none else none else none else none
 else dN.l0 k m aO (IntKind.wrap .i64 (gV+1)) else none else none
 else if (0:Int)<gV then
 if 0<=(IntKind.wrap .i64 (gV - 1)) then
 if (IntKind.wrap .i64 (gV - 1))<((List.length aO:Nat):Int) then
 if 0<=gV then
 if gV<((List.length aO:Nat):Int) then
 if LE.le (α:=Int) (rd bT aO gV).1 (rd bT aO (IntKind.wrap .i64 (gV - 1))).1 then
 some false
 else dN.l0 k m aO (IntKind.wrap .i64 (gV+1)) else none else none else none else none
 else dN.l0 k m aO (IntKind.wrap .i64 (gV+1)) else none else none else none else none
 else (fB k ((List.length aO:Nat):Int) 1 8).bind fun r3=>
 some (decide (r3=true)):=by kernel_rfl
theorem CZ (k:Nat) (aO):dJ (k+1) aO =
 dJ.l0 k k aO 0:=by kernel_rfl
theorem dJ.aB (k m:Nat) (aO gV):dJ.l0 k (m+1) aO gV =
 if (gV:Int)<((List.length aO:Nat):Int) then
 if 0<=gV then
 if gV<((List.length aO:Nat):Int) then
 (fB k (rd gW aO gV).1 1 100).bind fun r1=>
 if ¬ (r1=true) then
 some false
 else (fB k (rd gW aO gV).2.1 1 4).bind fun r2=>
 if ¬ (r2=true) then
 some false
 else (fB k (rd gW aO gV).2.2.1 0 9).bind fun r3=>
 if ¬ (r3=true) then
 some false
 else (fB k (rd gW aO gV).2.2.2.1 0 100000).bind fun r4=>
 if ¬ (r4=true) then
 some false
 else (fB k (rd gW aO gV).2.2.2.2.1 1 99).bind fun r5=>
 if ¬ (r5=true) then
 some false
 else if (0:Int)<gV then
 if 0<=(IntKind.wrap .i64 (gV - 1)) then
 if (IntKind.wrap .i64 (gV - 1))<((List.length aO:Nat):Int) then
 (rO k (rd gW aO (IntKind.wrap .i64 (gV - 1))) (rd gW aO gV)).bind fun r6=>
 if ¬ (r6=true) then
 some false
 else dJ.l0 k m aO (IntKind.wrap .i64 (gV+1)) else none else none
 else dJ.l0 k m aO (IntKind.wrap .i64 (gV+1)) else none else none
 else some (decide ((((List.length aO:Nat):Int):Int)<=30)):=by kernel_rfl
theorem Ac (k:Nat) (aO):cO (k+1) aO =
 cO.l0 k k aO 0:=by kernel_rfl
theorem cO.aB (k m:Nat) (aO gV):cO.l0 k (m+1) aO gV =
 if (gV:Int)<((List.length aO:Nat):Int) then
 if 0<=gV then
 if gV<((List.length aO:Nat):Int) then
 if Ne (α:=Int) (rd bT aO gV).1 gV then
 some false
 else if 0<=gV then
 if gV<((List.length aO:Nat):Int) then
 (fB k (rd bT aO gV).2.1 1 500).bind fun r1=>
 if ¬ (r1=true) then
 some false
 else if (0:Int)<gV then
 if 0<=(IntKind.wrap .i64 (gV - 1)) then
 if (IntKind.wrap .i64 (gV - 1))<((List.length aO:Nat):Int) then
 if 0<=gV then
 if gV<((List.length aO:Nat):Int) then
 if LE.le (α:=Int) (rd bT aO gV).2.1 (rd bT aO (IntKind.wrap .i64 (gV - 1))).2.1 then
 some false
 else cO.l0 k m aO (IntKind.wrap .i64 (gV+1)) else none else none else none else none
 else cO.l0 k m aO (IntKind.wrap .i64 (gV+1)) else none else none else none else none
 else some (decide ((((List.length aO:Nat):Int):Int)<=26)):=by kernel_rfl
theorem Bq (k:Nat) (aO gM bU):aM (k+1) aO gM bU =
 aM.l0 k k aO gM bU 0:=by kernel_rfl
theorem aM.aB (k m:Nat) (aO gM bU zy):aM.l0 k (m+1) aO gM bU zy =
 if (zy:Int)<((List.length bU:Nat):Int) then
 aM.l1 k k m aO gM bU zy false 0
 else (aC k aO).bind fun r1=>
 if r1=true then
 (dw k gM).bind fun r2=>
 if r2=true then
 some (decide ((((List.length bU:Nat):Int):Int)<=4))
 else some false
 else some false:=by kernel_rfl
theorem aM.zA (k m m1:Nat) (aO gM bU zy Cz Qw):aM.l1 k (m+1) m1 aO gM bU zy Cz Qw =
 if (Qw:Int)<((List.length aO:Nat):Int) then
 if Cz=true then
 aM.l1 k m m1 aO gM bU zy true (IntKind.wrap .i64 (Qw+1))
 else if 0<=Qw then
 if Qw<((List.length aO:Nat):Int) then
 if 0<=zy then
 if zy<((List.length bU:Nat):Int) then
 if Eq (α:=Int) (rd bD aO Qw).1 (rd (.int .i64) bU zy) then
 if 0<=Qw then
 if Qw<((List.length aO:Nat):Int) then
 (vW k (rd bD aO Qw) gM (IntKind.wrap .i64 (zy+1))).bind fun r3=>
 aM.l1 k m m1 aO gM bU zy (decide (r3=true)) (IntKind.wrap .i64 (Qw+1)) else none else none
 else aM.l1 k m m1 aO gM bU zy false (IntKind.wrap .i64 (Qw+1)) else none else none else none else none
 else if ¬ (Cz=true) then
 some false
 else if 0<=zy then
 if zy<=((List.length bU:Nat):Int) then
 if 0<=zy then
 if zy<((List.length bU:Nat):Int) then
 (gF k (List.take ((Int.toNat zy) - (Int.toNat 0)) (List.drop (Int.toNat 0) bU)) (rd (.int .i64) bU zy)).bind fun r4=>
 if r4=true then
 some false
 else aM.l0 k m1 aO gM bU (IntKind.wrap .i64 (zy+1)) else none else none else none else none:=by kernel_rfl
theorem Br (k:Nat) (x_0 EY KI):fB (k+1) x_0 EY KI =
 if (EY:Int)<=x_0 then
 some (decide ((x_0:Int)<=KI))
 else some false:=by kernel_rfl
theorem yX (k:Nat) (p_0):mO (k+1) p_0 =
 (ou k p_0.2.2.2.1).bind fun r1=>
 some (p_0.1,(p_0.2.1,(p_0.2.2.1,(r1,())))):=by kernel_rfl
theorem tO (k:Nat) (aO):jE (k+1) aO =
 if (List.length ([]:(List bA))+List.length aO)*32<=211106232532992 then
 some (([]:(List bA))++aO) else none:=by kernel_rfl
theorem tQ (k:Nat) (aO):lC (k+1) aO =
 if (List.length ([]:(List bq))+List.length aO)*16<=211106232532992 then
 some (([]:(List bq))++aO) else none:=by kernel_rfl
theorem Bt (k:Nat) (aO):ou (k+1) aO =
 if (List.length ([]:(List Int))+List.length aO)*8<=211106232532992 then
 some (([]:(List Int))++aO) else none:=by kernel_rfl
theorem uI (k:Nat) (aO):mg (k+1) aO =
 if (List.length ([]:(List gy))+List.length aO)*40<=211106232532992 then
 some (([]:(List gy))++aO) else none:=by kernel_rfl
theorem rV (k:Nat) (aO):kP (k+1) aO =
 if (List.length ([]:(List bq))+List.length aO)*16<=211106232532992 then
 some (([]:(List bq))++aO) else none:=by kernel_rfl
theorem Et (k:Nat) (aO):dx (k+1) aO =
 dx.l0 k k aO aO ((List.length aO:Nat):Int) 0:=by kernel_rfl
theorem dx.aB (k m:Nat) (aO pJ wK gX):dx.l0 k (m+1) aO pJ wK gX =
 if (gX:Int)<wK then
 if 0<=gX then
 if gX<((List.length pJ:Nat):Int) then
 (bC k (rd fF pJ gX).1 0 2000).bind fun r1=>
 if ¬ (r1=true) then
 some false
 else (bC k (rd fF pJ gX).2.1 1 96).bind fun r2=>
 if ¬ (r2=true) then
 some false
 else (bC k (rd fF pJ gX).2.2.1 21 108).bind fun r3=>
 if ¬ (r3=true) then
 some false
 else (bC k (rd fF pJ gX).2.2.2.1 1 4).bind fun r4=>
 if ¬ (r4=true) then
 some false
 else if (0:Int)<gX then
 if 0<=(IntKind.wrap .i64 (gX - 1)) then
 if (IntKind.wrap .i64 (gX - 1))<((List.length aO:Nat):Int) then
 (qE k (rd fF aO (IntKind.wrap .i64 (gX - 1))) (rd fF pJ gX)).bind fun r5=>
 if (0:Int)<=r5 then
 some false
 else dx.l0 k m aO pJ wK (IntKind.wrap .i64 (gX+1)) else none else none
 else dx.l0 k m aO pJ wK (IntKind.wrap .i64 (gX+1)) else none else none
 else some (decide ((((List.length aO:Nat):Int):Int)<=40)):=by kernel_rfl
theorem kS (k:Nat) (MV):vV (k+1) MV =
 (bC k MV.1 1 12).bind fun r1=>
 if r1=true then
 if (MV.2.1:Int)=1 then
 some true
 else if (MV.2.1:Int)=2 then
 some true
 else if (MV.2.1:Int)=4 then
 some true
 else some (decide ((MV.2.1:Int)=8))
 else some false:=by kernel_rfl
theorem Eu (k:Nat) (aO):dO (k+1) aO =
 dO.l0 k k aO aO ((List.length aO:Nat):Int) 0:=by kernel_rfl
theorem dO.aB (k m:Nat) (aO pJ wK gX):dO.l0 k (m+1) aO pJ wK gX =
 if (gX:Int)<wK then
 if 0<=gX then
 if gX<((List.length pJ:Nat):Int) then
 if (gX:Int)=0 then
 if Ne (α:=Int) (rd bT pJ gX).1 0 then
 some false
 else if (0:Int)<gX then
 if 0<=(IntKind.wrap .i64 (gX - 1)) then
 if (IntKind.wrap .i64 (gX - 1))<((List.length aO:Nat):Int) then
 if LE.le (α:=Int) (rd bT pJ gX).1 (rd bT aO (IntKind.wrap .i64 (gX - 1))).1 then
 some false
 else if LT.lt (α:=Int) 2000 (rd bT pJ gX).1 then
 some false
 else (bC k (rd bT pJ gX).2.1 20 300).bind fun r1=>
 if ¬ (r1=true) then
 some false
 else dO.l0 k m aO pJ wK (IntKind.wrap .i64 (gX+1)) else none else none
 else if LT.lt (α:=Int) 2000 (rd bT pJ gX).1 then
 some false
 else (bC k (rd bT pJ gX).2.1 20 300).bind fun r2=>
 if ¬ (r2=true) then
 some false
 else dO.l0 k m aO pJ wK (IntKind.wrap .i64 (gX+1))
 else if (0:Int)<gX then
 if 0<=(IntKind.wrap .i64 (gX - 1)) then
 if (IntKind.wrap .i64 (gX - 1))<((List.length aO:Nat):Int) then
 if LE.le (α:=Int) (rd bT pJ gX).1 (rd bT aO (IntKind.wrap .i64 (gX - 1))).1 then
 some false
 else if LT.lt (α:=Int) 2000 (rd bT pJ gX).1 then
 some false
 else (bC k (rd bT pJ gX).2.1 20 300).bind fun r3=>
 if ¬ (r3=true) then
 some false
 else dO.l0 k m aO pJ wK (IntKind.wrap .i64 (gX+1)) else none else none
 else if LT.lt (α:=Int) 2000 (rd bT pJ gX).1 then
 some false
 else (bC k (rd bT pJ gX).2.1 20 300).bind fun r4=>
 if ¬ (r4=true) then
 some false
 else dO.l0 k m aO pJ wK (IntKind.wrap .i64 (gX+1)) else none else none
 else (bC k ((List.length aO:Nat):Int) 1 8).bind fun r5=>
 some (decide (r5=true)):=by kernel_rfl
theorem Da (k:Nat) (aO):dK (k+1) aO =
 dK.l0 k k aO aO ((List.length aO:Nat):Int) 0:=by kernel_rfl
theorem dK.aB (k m:Nat) (aO pJ wK gX):dK.l0 k (m+1) aO pJ wK gX =
 if (gX:Int)<wK then
 if 0<=gX then
 if gX<((List.length pJ:Nat):Int) then
 (bC k (rd gW pJ gX).1 1 100).bind fun r1=>
 if ¬ (r1=true) then
 some false
 else (bC k (rd gW pJ gX).2.1 1 4).bind fun r2=>
 if ¬ (r2=true) then
 some false
 else (bC k (rd gW pJ gX).2.2.1 0 9).bind fun r3=>
 if ¬ (r3=true) then
 some false
 else (bC k (rd gW pJ gX).2.2.2.1 0 100000).bind fun r4=>
 if ¬ (r4=true) then
 some false
 else (bC k (rd gW pJ gX).2.2.2.2.1 1 99).bind fun r5=>
 if ¬ (r5=true) then
 some false
 else if (0:Int)<gX then
 if 0<=(IntKind.wrap .i64 (gX - 1)) then
 if (IntKind.wrap .i64 (gX - 1))<((List.length aO:Nat):Int) then
 (rP k (rd gW aO (IntKind.wrap .i64 (gX - 1))) (rd gW pJ gX)).bind fun r6=>
 if (0:Int)<=r6 then
 some false
 else dK.l0 k m aO pJ wK (IntKind.wrap .i64 (gX+1)) else none else none
 else dK.l0 k m aO pJ wK (IntKind.wrap .i64 (gX+1)) else none else none
 else some (decide ((((List.length aO:Nat):Int):Int)<=30)):=by kernel_rfl
theorem Ad (k:Nat) (aO):cZ (k+1) aO =
 cZ.l0 k k aO aO ((List.length aO:Nat):Int) 0:=by kernel_rfl
theorem cZ.aB (k m:Nat) (aO pJ wK gX):cZ.l0 k (m+1) aO pJ wK gX =
 if (gX:Int)<wK then
 if 0<=gX then
 if gX<((List.length pJ:Nat):Int) then
 if Ne (α:=Int) (rd bT pJ gX).1 gX then
 some false
 else (bC k (rd bT pJ gX).2.1 1 500).bind fun r1=>
 if ¬ (r1=true) then
 some false
 else if (0:Int)<gX then
 if 0<=(IntKind.wrap .i64 (gX - 1)) then
 if (IntKind.wrap .i64 (gX - 1))<((List.length aO:Nat):Int) then
 if LE.le (α:=Int) (rd bT pJ gX).2.1 (rd bT aO (IntKind.wrap .i64 (gX - 1))).2.1 then
 some false
 else cZ.l0 k m aO pJ wK (IntKind.wrap .i64 (gX+1)) else none else none
 else cZ.l0 k m aO pJ wK (IntKind.wrap .i64 (gX+1)) else none else none
 else some (decide ((((List.length aO:Nat):Int):Int)<=26)):=by kernel_rfl
theorem lI (k:Nat) (aO gM bU):dH (k+1) aO gM bU =
 (dh k aO).bind fun r1=>
 if ¬ (r1=true) then
 some false
 else (dx k gM).bind fun r2=>
 if ¬ (r2=true) then
 some false
 else if (4:Int)<((List.length bU:Nat):Int) then
 some false
 else dH.l0 k k aO bU bU ((List.length bU:Nat):Int) 0 gM:=by kernel_rfl
theorem dH.aB (k m:Nat) (aO bU OG SL CB qQ):dH.l0 k (m+1) aO bU OG SL CB qQ =
 if (CB:Int)<SL then
 if 0<=CB then
 if CB<((List.length OG:Nat):Int) then
 if 0<=CB then
 if CB<=((List.length bU:Nat):Int) then
 (iD k (List.take ((Int.toNat CB) - (Int.toNat 0)) (List.drop (Int.toNat 0) bU)) (rd (.int .i64) OG CB)).bind fun r3=>
 if r3=true then
 some false
 else (gJ k aO (rd (.int .i64) OG CB) qQ CB).bind fun r4=>
 if ¬ (r4=true) then
 some false
 else dH.l0 k m aO bU OG SL (IntKind.wrap .i64 (CB+1)) qQ else none else none else none else none
 else some true:=by kernel_rfl
theorem wG (k:Nat) (Xv iw eX):bC (k+1) Xv iw eX =
 if (iw:Int)<=Xv then
 some (decide ((Xv:Int)<=eX))
 else some false:=by kernel_rfl
theorem KM (k:Nat) (QX):CF (k+1) QX =
 (fB k QX.1 0 2000).bind fun r1=>
 if r1=true then
 (fB k QX.2.1 1 96).bind fun r2=>
 if r2=true then
 (fB k QX.2.2.1 21 108).bind fun r3=>
 if r3=true then
 (fB k QX.2.2.2.1 1 4).bind fun r4=>
 some (decide (r4=true))
 else some false
 else some false
 else some false:=by kernel_rfl
theorem Db (k:Nat) (a_0 b_1):tN (k+1) a_0 b_1 =
 if (a_0.1:Int) ≠ b_1.1 then
 some (decide ((a_0.1:Int)<b_1.1))
 else if (a_0.2.2.2.1:Int) ≠ b_1.2.2.2.1 then
 some (decide ((a_0.2.2.2.1:Int)<b_1.2.2.2.1))
 else some (decide ((a_0.2.2.1:Int)<b_1.2.2.1)):=by kernel_rfl
theorem Bu (k:Nat) (a_0 b_1):rO (k+1) a_0 b_1 =
 if (a_0.1:Int)<b_1.1 then
 some true
 else if (a_0.1:Int)=b_1.1 then
 some (decide ((a_0.2.1:Int)<b_1.2.1))
 else some false:=by kernel_rfl
theorem Ae (k:Nat) (aO):aC (k+1) aO =
 aC.l0 k k aO 0:=by kernel_rfl
theorem aC.aB (k m:Nat) (aO gV):aC.l0 k (m+1) aO gV =
 if (gV:Int)<((List.length aO:Nat):Int) then
 if 0<=gV then
 if gV<((List.length aO:Nat):Int) then
 (fB k (rd bD aO gV).1 1 99).bind fun r1=>
 if ¬ (r1=true) then
 some false
 else if LT.lt (α:=Int) (rd bD aO gV).2.1 21 then
 some false
 else if LT.lt (α:=Int) (rd bD aO gV).2.2.1 (rd bD aO gV).2.1 then
 some false
 else if LT.lt (α:=Int) 108 (rd bD aO gV).2.2.1 then
 some false
 else if (0:Int)<gV then
 if 0<=(IntKind.wrap .i64 (gV - 1)) then
 if (IntKind.wrap .i64 (gV - 1))<((List.length aO:Nat):Int) then
 if LE.le (α:=Int) (rd bD aO gV).1 (rd bD aO (IntKind.wrap .i64 (gV - 1))).1 then
 some false
 else aC.l1 k k m aO gV 0 (rd bD aO gV).1 (rd bD aO gV).2.1 (rd bD aO gV).2.2.1 (rd bD aO gV).2.2.2.1 else none else none
 else aC.l1 k k m aO gV 0 (rd bD aO gV).1 (rd bD aO gV).2.1 (rd bD aO gV).2.2.1 (rd bD aO gV).2.2.2.1 else none else none
 else some (decide ((((List.length aO:Nat):Int):Int)<=8)):=by kernel_rfl
theorem aC.zA (k m m1:Nat) (aO gV Nk qQ qg qh qC):aC.l1 k (m+1) m1 aO gV Nk qQ qg qh qC =
 if (Nk:Int)<((List.length qC:Nat):Int) then
 if 0<=Nk then
 if Nk<((List.length qC:Nat):Int) then
 (fB k (rd (.int .i64) qC Nk) 1 4).bind fun r2=>
 if ¬ (r2=true) then
 some false
 else if (0:Int)<Nk then
 if 0<=(IntKind.wrap .i64 (Nk - 1)) then
 if (IntKind.wrap .i64 (Nk - 1))<((List.length qC:Nat):Int) then
 if 0<=Nk then
 if Nk<((List.length qC:Nat):Int) then
 if LE.le (α:=Int) (rd (.int .i64) qC Nk) (rd (.int .i64) qC (IntKind.wrap .i64 (Nk - 1))) then
 some false
 else aC.l1 k m m1 aO gV (IntKind.wrap .i64 (Nk+1)) qQ qg qh qC else none else none else none else none
 else aC.l1 k m m1 aO gV (IntKind.wrap .i64 (Nk+1)) qQ qg qh qC else none else none
 else aC.l0 k m1 aO (IntKind.wrap .i64 (gV+1)):=by kernel_rfl
theorem qF (k:Nat) (p_0 l_1 oz):vW (k+1) p_0 l_1 oz =
 (gF k p_0.2.2.2.1 oz).bind fun r1=>
 if r1=true then
 (dw k l_1).bind fun r2=>
 if r2=true then
 (fJ k l_1 oz).bind fun r3=>
 (dX k r3 p_0.2.1 p_0.2.2.1).bind fun r4=>
 some (decide (r4=true))
 else some false
 else some false:=by kernel_rfl
theorem GQ (k:Nat) (aO Te):gF (k+1) aO Te =
 gF.l0 k k aO Te 0:=by kernel_rfl
theorem gF.aB (k m:Nat) (aO Te aU):gF.l0 k (m+1) aO Te aU =
 if (aU:Int)<((List.length aO:Nat):Int) then
 if 0<=aU then
 if aU<((List.length aO:Nat):Int) then
 if Eq (α:=Int) (rd (.int .i64) aO aU) Te then
 some true
 else gF.l0 k m aO Te (IntKind.wrap .i64 (aU+1)) else none else none
 else some false:=by kernel_rfl
theorem Af (k:Nat) (a_0 b_1):qE (k+1) a_0 b_1 =
 (cmp_Compare_int k a_0.1 b_1.1).bind fun r1=>
 (cmp_Compare_int k a_0.2.2.2.1 b_1.2.2.2.1).bind fun r2=>
 (cmp_Compare_int k a_0.2.2.1 b_1.2.2.1).bind fun r3=>
 (eD k ([r1,r2,r3])).bind fun r4=>
 some r4:=by kernel_rfl
theorem Bv (k:Nat) (a_0 b_1):rP (k+1) a_0 b_1 =
 (cmp_Compare_int k a_0.1 b_1.1).bind fun r1=>
 (cmp_Compare_int k a_0.2.1 b_1.2.1).bind fun r2=>
 (eD k ([r1,r2])).bind fun r3=>
 some r3:=by kernel_rfl
theorem Ag (k:Nat) (aO):dh (k+1) aO =
 dh.l0 k k aO aO ((List.length aO:Nat):Int) 0 []:=by kernel_rfl
theorem dh.aB (k m:Nat) (aO gX ql xW s0):dh.l0 k (m+1) aO gX ql xW s0 =
 if (xW:Int)<ql then
 if 0<=xW then
 if xW<((List.length gX:Nat):Int) then
 (bC k (rd bD gX xW).2.1 21 (rd bD gX xW).2.2.1).bind fun r1=>
 if ¬ (r1=true) then
 some false
 else if LT.lt (α:=Int) 108 (rd bD gX xW).2.2.1 then
 some false
 else (dn k (rd bD gX xW).2.2.2.1 1 4).bind fun r2=>
 if ¬ (r2=true) then
 some false
 else if (List.length s0+List.length ([(rd bD gX xW).1]:(List Int)))*8<=211106232532992 then
 dh.l0 k m aO gX ql (IntKind.wrap .i64 (xW+1)) (s0++([(rd bD gX xW).1]:(List Int))) else none else none else none
 else if (((List.length aO:Nat):Int):Int)<=8 then
 (dn k s0 1 99).bind fun r3=>
 some (decide (r3=true))
 else some false:=by kernel_rfl
theorem qG (k:Nat) (s_0 v_1):iD (k+1) s_0 v_1 =
 (aY k s_0 v_1).bind fun r1=>
 some (decide ((0:Int)<=r1)):=by kernel_rfl
theorem mq (k:Nat) (s_0 qD KJ KL):gJ (k+1) s_0 qD KJ KL =
 (aK k s_0 qD KJ KL).bind fun r1=>
 some (decide ((0:Int)<=r1)):=by kernel_rfl
theorem Ew (k:Nat) (aO kg):fJ (k+1) aO kg =
 fJ.l0 k k aO kg 0 []:=by kernel_rfl
theorem fJ.aB (k m:Nat) (aO kg Qx s0):fJ.l0 k (m+1) aO kg Qx s0 =
 if (Qx:Int)<((List.length aO:Nat):Int) then
 if 0<=Qx then
 if Qx<((List.length aO:Nat):Int) then
 if Eq (α:=Int) (rd fF aO Qx).2.2.2.1 kg then
 if 0<=Qx then
 if Qx<((List.length aO:Nat):Int) then
 if (List.length s0+List.length ([(rd fF aO Qx)]:(List bA)))*32<=211106232532992 then
 fJ.l0 k m aO kg (IntKind.wrap .i64 (Qx+1)) (s0++([(rd fF aO Qx)]:(List bA))) else none else none else none
 else fJ.l0 k m aO kg (IntKind.wrap .i64 (Qx+1)) s0 else none else none
 else some s0:=by kernel_rfl
theorem Bw (k:Nat) (aO iw eX):dX (k+1) aO iw eX =
 dX.l0 k k aO iw eX 0:=by kernel_rfl
theorem dX.aB (k m:Nat) (aO iw eX zy):dX.l0 k (m+1) aO iw eX zy =
 if (zy:Int)<((List.length aO:Nat):Int) then
 if 0<=zy then
 if zy<((List.length aO:Nat):Int) then
 (fB k (rd fF aO zy).2.2.1 iw eX).bind fun r1=>
 if ¬ (r1=true) then
 some false
 else dX.l0 k m aO iw eX (IntKind.wrap .i64 (zy+1)) else none else none
 else (dw k aO).bind fun r2=>
 some (decide (r2=true)):=by kernel_rfl
theorem nM (k:Nat) (x_0 y_1):cmp_Compare_int (k+1) x_0 y_1 =
 (cmp_isNaN_int k x_0).bind fun r1=>
 (cmp_isNaN_int k y_1).bind fun r2=>
 if r1=true then
 if r2=true then
 some 0
 else some (-1)
 else if r2=true then
 some 1
 else if (x_0:Int)<y_1 then
 some (-1)
 else if (y_1:Int)<x_0 then
 some 1
 else some 0:=by kernel_rfl
theorem zB (k:Nat) (GI):eD (k+1) GI =
 eD.l0 k k 0 GI ((List.length GI:Nat):Int) 0:=by kernel_rfl
theorem eD.aB (k m:Nat) (CG wK gX ql):eD.l0 k (m+1) CG wK gX ql =
 if (ql:Int)<gX then
 if 0<=ql then
 if ql<((List.length wK:Nat):Int) then
 if Ne (α:=Int) (rd (.int .i64) wK ql) CG then
 some (rd (.int .i64) wK ql)
 else eD.l0 k m CG wK gX (IntKind.wrap .i64 (ql+1)) else none else none
 else some CG:=by kernel_rfl
theorem Bz (k:Nat) (aO iw eX):dn (k+1) aO iw eX =
 dn.l0 k k aO iw eX aO ((List.length aO:Nat):Int) 0:=by kernel_rfl
theorem dn.aB (k m:Nat) (aO iw eX xW tK nW):dn.l0 k (m+1) aO iw eX xW tK nW =
 if (nW:Int)<tK then
 if 0<=nW then
 if nW<((List.length xW:Nat):Int) then
 (bC k (rd (.int .i64) xW nW) iw eX).bind fun r1=>
 if ¬ (r1=true) then
 some false
 else if (0:Int)<nW then
 if 0<=(IntKind.wrap .i64 (nW - 1)) then
 if (IntKind.wrap .i64 (nW - 1))<((List.length aO:Nat):Int) then
 if LE.le (α:=Int) (rd (.int .i64) xW nW) (rd (.int .i64) aO (IntKind.wrap .i64 (nW - 1))) then
 some false
 else dn.l0 k m aO iw eX xW tK (IntKind.wrap .i64 (nW+1)) else none else none
 else dn.l0 k m aO iw eX xW tK (IntKind.wrap .i64 (nW+1)) else none else none
 else some true:=by kernel_rfl
theorem rW (k:Nat) (s_0 v_1):aY (k+1) s_0 v_1 =
 aY.l0 k k s_0 v_1 ((List.length s_0:Nat):Int) 0:=by kernel_rfl
theorem aY.aB (k m:Nat) (s_0 v_1 gX ql):aY.l0 k (m+1) s_0 v_1 gX ql =
 if (ql:Int)<gX then
 if 0<=ql then
 if ql<((List.length s_0:Nat):Int) then
 if Eq (α:=Int) v_1 (rd (.int .i64) s_0 ql) then
 some ql
 else aY.l0 k m s_0 v_1 gX (IntKind.wrap .i64 (ql+1)) else none else none
 else some (-1):=by kernel_rfl
theorem mZ (k:Nat) (s_0 qD KJ KL):aK (k+1) s_0 qD KJ KL =
 aK.l0 k k s_0 qD KJ KL ((List.length s_0:Nat):Int) 0:=by kernel_rfl
theorem aK.aB (k m:Nat) (s_0 xY Bf Bg gX ql):aK.l0 k (m+1) s_0 xY Bf Bg gX ql =
 if (ql:Int)<gX then
 if 0<=ql then
 if ql<((List.length s_0:Nat):Int) then
 (oV k (rd bD s_0 ql) xY Bf Bg).bind fun r1=>
 if r1=true then
 some ql
 else aK.l0 k m s_0 xY Bf Bg gX (IntKind.wrap .i64 (ql+1)) else none else none
 else some (-1):=by kernel_rfl
theorem Dc (k:Nat) (x_0):cmp_isNaN_int (k+1) x_0 =
 some (decide ((x_0:Int) ≠ x_0)):=by kernel_rfl
theorem qJ (k:Nat) (p_0 a_1 a_2 XQ):oV (k+1) p_0 a_1 a_2 XQ =
 if (p_0.1:Int)=a_1 then
 (vX k p_0 a_2 (IntKind.wrap .i64 (XQ+1))).bind fun r1=>
 some (decide (r1=true))
 else some false:=by kernel_rfl
theorem qH (k:Nat) (p_0 l_1 oz):vX (k+1) p_0 l_1 oz =
 (iD k p_0.2.2.2.1 oz).bind fun r1=>
 if r1=true then
 (dx k l_1).bind fun r2=>
 if r2=true then
 (vY k l_1 oz).bind fun r3=>
 (dY k r3 p_0.2.1 p_0.2.2.1).bind fun r4=>
 some (decide (r4=true))
 else some false
 else some false:=by kernel_rfl
theorem Ey (k:Nat) (aO kg):vY (k+1) aO kg =
 (jE k aO).bind fun r1=>
 (aF k r1 kg).bind fun r2=>
 some r2:=by kernel_rfl
theorem BA (k:Nat) (aO iw eX):dY (k+1) aO iw eX =
 dY.l0 k k aO iw eX aO ((List.length aO:Nat):Int) 0:=by kernel_rfl
theorem dY.aB (k m:Nat) (aO iw eX xW tK nW):dY.l0 k (m+1) aO iw eX xW tK nW =
 if (nW:Int)<tK then
 if 0<=nW then
 if nW<((List.length xW:Nat):Int) then
 (bC k (rd fF xW nW).2.2.1 iw eX).bind fun r1=>
 if ¬ (r1=true) then
 some false
 else dY.l0 k m aO iw eX xW tK (IntKind.wrap .i64 (nW+1)) else none else none
 else (dx k aO).bind fun r2=>
 some (decide (r2=true)):=by kernel_rfl
theorem ng (k:Nat) (s_0 qD):aF (k+1) s_0 qD =
 (aI k s_0 qD).bind fun r1=>
 if (r1:Int)=(-1) then
 some s_0
 else aF.l0 k k qD r1 (IntKind.wrap .i64 (r1+1)) s_0:=by kernel_rfl
theorem aF.aB (k m:Nat) (yK aU Tf s0):aF.l0 k (m+1) yK aU Tf s0 =
 if (Tf:Int)<((List.length s0:Nat):Int) then
 if 0<=Tf then
 if Tf<((List.length s0:Nat):Int) then
 (oC k (rd fF s0 Tf) yK).bind fun r2=>
 if ¬ (r2=true) then
 if 0<=aU then
 if aU<((List.length s0:Nat):Int) then
 aF.l0 k m yK (IntKind.wrap .i64 (aU+1)) (IntKind.wrap .i64 (Tf+1)) (List.set s0 (Int.toNat aU) (rd fF s0 Tf)) else none else none
 else aF.l0 k m yK aU (IntKind.wrap .i64 (Tf+1)) s0 else none else none
 else if 0<=aU then
 if aU<=((List.length s0:Nat):Int) then
 if 0<=aU then
 if aU<=((List.length (List.take (Int.toNat aU) s0++List.replicate ((Int.toNat ((List.length s0:Nat):Int)) - (Int.toNat aU)) (Ty.dflt fF)++List.drop ((Int.toNat aU)+((Int.toNat ((List.length s0:Nat):Int)) - (Int.toNat aU))) s0):Nat):Int) then
 some (List.take ((Int.toNat aU) - (Int.toNat 0)) (List.drop (Int.toNat 0) (List.take (Int.toNat aU) s0++List.replicate ((Int.toNat ((List.length s0:Nat):Int)) - (Int.toNat aU)) (Ty.dflt fF)++List.drop ((Int.toNat aU)+((Int.toNat ((List.length s0:Nat):Int)) - (Int.toNat aU))) s0))) else none else none else none else none:=by kernel_rfl
theorem nN (k:Nat) (s_0 qD):aI (k+1) s_0 qD =
 aI.l0 k k s_0 qD ((List.length s_0:Nat):Int) 0:=by kernel_rfl
theorem aI.aB (k m:Nat) (s_0 xY gX ql):aI.l0 k (m+1) s_0 xY gX ql =
 if (ql:Int)<gX then
 if 0<=ql then
 if ql<((List.length s_0:Nat):Int) then
 (oC k (rd fF s_0 ql) xY).bind fun r1=>
 if r1=true then
 some ql
 else aI.l0 k m s_0 xY gX (IntKind.wrap .i64 (ql+1)) else none else none
 else some (-1):=by kernel_rfl
theorem BD (k:Nat) (QX a_1):oC (k+1) QX a_1 =
 some (decide ((QX.2.2.2.1:Int) ≠ a_1)):=by kernel_rfl
end Go.dB
