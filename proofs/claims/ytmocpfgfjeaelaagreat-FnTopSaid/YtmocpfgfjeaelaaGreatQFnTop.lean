/- The functions that the law FnTop reaches, as equations; printed by pe.py. No condition. -/
import Derived.Test.YtmocpfgfjeaelaaGreatPrim
import Derived.Test.YtmocpfgfjeaelaaGreatIns
import Derived.Test.YtmocpfgfjeaelaaGreatSortF
import Derived.Test.YtmocpfgfjeaelaaGreatPureSeat
import Derived.Test.YtmocpfgfjeaelaaGreatSeatF
import Derived.Test.YtmocpfgfjeaelaaGreatProg
import Derived.KernelRfl
set_option linter.unusedVariables false
open Go Go.Flat
namespace Go.pK
abbrev aY:Ty:=.pair (.int .i64) (.pair (.int .i64) .unit)
abbrev aZ:=Int × (Int × Unit)
abbrev iB:Ty:=.pair (.int .i64) aY
abbrev gY:=Int × aZ
abbrev aP:Ty:=.pair (.int .i64) iB
abbrev aC:=Int × gY
abbrev dL:Ty:=.pair (.int .i64) (.pair (.int .i64) (.pair (.int .i64) (.pair (.list (.int .i64)) .unit)))
abbrev bT:=Int × (Int × (Int × ((List Int) × Unit)))
abbrev gX:Ty:=.pair (.int .i64) aP
abbrev eX:=Int × aC
abbrev lu:Ty:=.pair (.list aP) (.pair aY (.pair (.list aY) (.pair (.list dL) (.pair (.list (.int .i64)) (.pair (.list gX) (.pair (.list aY) aY))))))
abbrev cK:=(List aC) × (aZ × ((List aZ) × ((List bT) × ((List Int) × ((List eX) × ((List aZ) × aZ))))))
abbrev Fa:Ty:=.pair (.int .i64) (.pair (.int .i64) (.pair aP (.pair aY (.pair dL (.pair gX .unit)))))
abbrev oO:=Int × (Int × (aC × (aZ × (bT × (eX × Unit)))))
abbrev NN:Ty:=.pair (.list (.int .i64)) (.pair (.list (.int .i64)) .unit)
abbrev RP:=(List Int) × ((List Int) × Unit)
abbrev wH:Ty:=.pair (.list (.int .i64)) (.pair (.int .i64) .unit)
abbrev BZ:=(List Int) × (Int × Unit)
abbrev jY:Ty:=.pair (.list (.int .u8)) aY
abbrev iH:=(List Int) × aZ
noncomputable def C:dh:={
  P:=Go.Proofs.Tryz.prog,
  tt:=[(1,none),(2,some (.int .i64)),(3,some (.int .i64)),(4,some .bool),(5,some (.int .u8)),(6,some (.int .u8)),(9,some .str),(10,some .str),(11,some .str),(12,some (.int .u64)),(15,none),(16,none),(17,none),(21,some (.int .i32)),(22,some (.list (.int .u8))),(23,none),(24,some (.list aP)),(25,some aY),(26,some aY),(27,some (.list aY)),(28,some (.list dL)),(29,some (.list (.int .i64))),(30,some (.list gX)),(31,some (.list aY)),(32,some lu),(33,some lu),(34,some (.list Fa)),(36,none),(38,none),(39,some aP),(40,some aP),(41,some aY),(42,some aY),(43,some dL),(44,some dL),(45,some gX),(46,some gX),(47,some Fa),(48,some Fa),(49,none),(50,some (.list (.list iB))),(52,none),(53,none),(54,some aY),(55,some aY),(57,none),(58,none),(59,some NN),(60,some NN),(62,none),(64,none),(65,none),(66,none),(67,none),(69,none),(70,none),(72,none),(73,none),(75,none),(76,none),(78,none),(79,none),(81,none),(82,none),(83,none),(84,none),(85,none),(86,none),(87,some (.list aP)),(88,some aY),(89,some (.list aY)),(90,some (.list dL)),(91,some (.list gX)),(92,some (.list aY)),(93,some lu),(94,some lu),(95,some dL),(96,none),(97,none),(98,none),(99,none),(100,none),(101,none),(102,none),(103,none),(104,none),(105,none),(106,none),(107,none),(108,none),(109,none),(110,none),(112,none),(113,none),(114,none),(115,none),(116,none),(117,none),(118,none),(119,none),(120,none),(121,none),(122,none),(123,none),(124,none),(125,some (.list iB)),(127,none),(128,none),(129,none),(130,none),(131,none),(132,none),(133,none),(134,none),(135,some wH),(136,some wH),(138,none),(139,none),(140,none),(141,none),(142,none),(143,none),(144,none),(145,none),(146,none),(147,none),(148,none),(149,none),(150,none),(151,none),(152,none),(153,none),(154,none),(155,none),(157,none),(158,none),(159,none),(160,none),(162,none),(163,none),(164,none),(165,none),(166,none),(167,none),(168,none),(169,none),(170,none),(171,none),(172,none),(173,some aY),(174,some aY),(175,none),(176,none),(177,none),(178,none),(179,none),(180,none),(181,none),(182,none),(183,none),(184,none),(185,none),(186,none),(187,none),(188,none),(189,none),(190,none),(191,none),(192,none),(193,none),(194,none),(195,none),(196,none),(197,none),(198,some (.list .str)),(199,some jY),(200,some jY),(201,none),(202,none),(203,none),(204,none),(205,none),(206,none),(207,none),(208,none),(209,none),(210,none),(211,none),(212,some iB),(213,some iB),(214,none),(215,none),(216,none),(217,none),(218,none),(219,none),(221,none),(222,none),(223,none),(224,none),(225,none),(226,none),(227,none),(228,none),(229,none),(230,none),(231,some aP),(232,none),(233,some aY),(234,none),(235,some gX),(236,none),(237,some aY),(238,none),(239,none),(240,none),(241,none),(242,none),(243,none),(244,none),(245,none),(246,none),(247,none),(248,none),(249,some (.int .u64)),(250,none),(251,none),(252,none),(253,none),(254,none),(255,none),(256,none),(257,none),(258,none),(259,some (.int .i64)),(261,none),(262,none),(263,none),(264,none),(265,none),(266,some (.int .u32)),(267,none),(268,some (.int .u64)),(269,none),(270,none),(271,none),(272,none),(273,some (.int .u64)),(274,none),(275,none),(276,none),(277,none),(278,none),(279,none),(280,none),(281,none),(282,none),(283,none),(289,none),(290,some (.int .u8)),(291,some (.int .u8)),(292,none),(293,none),(294,some (.int .i32)),(295,some (.int .i32))],
  vars:=[(3,[4,5,6,9,14,16,17,18,19]),(13,[0,1,6,7]),(15,[0,1,4,6,24,25,26]),(16,[0,3,4,6,7,39,40,41]),(17,[4,6,18,19,20]),(18,[0,1,3,10,12,14,36,37,38]),(59,[0,5,6,7]),(63,[0,3,4]),(65,[0,5,6]),(66,[1,2,3,8,9,10]),(68,[0,5,6,7]),(69,[0,5,6,7]),(70,[0,5,6,7]),(71,[0,2,4,22,23,24]),(73,[2,8,9,23,24,25]),(74,[3,8,9,10]),(75,[4,12,13,14]),(76,[0,1,12,13]),(84,[2,4,14,15]),(85,[2,4,6,7,36,37,38]),(87,[1,2,3,9,15,16,17]),(88,[1,6,7,8]),(104,[0,1,7,8]),(110,[0,1,7,8]),(112,[0,1,7,8]),(113,[1,2,3,24,25,26]),(116,[0,1,4,10,11,12]),(121,[0,1,12,13]),(135,[0,3,4]),(168,[0,3,4]),(169,[0,3,4]),(170,[0,3,4,5]),(177,[0,3,7,8,9]),(182,[0,3,7,8,9]),(183,[1,5,11,12,13]),(185,[0,1,5,6]),(188,[0,1]),(190,[0,3,8,9,10]),(192,[1,6,7,11,12,13]),(194,[0,1,7,8]),(203,[0,3,7,8]),(222,[3,6,7,8]),(225,[0,1,7,8,9]),(227,[0,1,2,9,10,11]),(228,[0,1,2,9,10,11]),(244,[0,2,4,8,9,10]),(247,[0,3]),(249,[0,3]),(250,[0,3]),(251,[0,3]),(252,[0,1,2,7,8,9]),(255,[0,3,5]),(267,[0,3,4,5]),(279,[0,1,5]),(291,[0,1,2,7]),(292,[0,1,5,6])],
  sigs:=[(63,{ lend:=some 1000,made:=jY }),(64,{ lend:=some 0 }),(65,{ lend:=some 0 }),(94,{ lend:=some 0 }),(95,{ lend:=some 0 }),(96,{ lend:=some 0 }),(98,{ lend:=some 0 }),(100,{ lend:=some 0 }),(101,{ lend:=some 0 }),(103,{ lend:=some 0 }),(106,{ io:=[0] }),(107,{ lend:=some 0 }),(109,{ lend:=some 0 }),(114,{ io:=[0] }),(116,{ lend:=some 0 }),(117,{ io:=[0] }),(118,{ own:=false }),(119,{ lend:=some 0 }),(122,{ lend:=some 0 }),(165,{ lend:=some 0 }),(167,{ lend:=some 0 }),(168,{ lend:=some 0 }),(170,{ lend:=some 0 }),(184,{ lend:=some 0 }),(185,{ io:=[0] }),(201,{ io:=[0] }),(202,{ lend:=some 0 }),(204,{ io:=[0] }),(211,{ io:=[0] }),(224,{ lend:=some 0 }),(225,{ lend:=some 0 }),(245,{ io:=[0] })],
  MX:=fun f=>bif Nat.beq f 106 then some (gN aY 16) else bif Nat.beq f 108 then some (uI Go.gy.QK Go.gy.QN Go.gy.Bv) else bif Nat.beq f 114 then some (kJ dL) else bif Nat.beq f 117 then some (gN dL 48) else bif Nat.beq f 184 then some (qU 164 aP uG) else bif Nat.beq f 201 then some (gN aP 32) else bif Nat.beq f 204 then some (kJ aP) else bif Nat.beq f 245 then some (gN gX 40) else none,
  ptrs:=[15,16,17,114,149,277,280,293],
  YG:=[(37,28)] }
noncomputable def bn (k:Nat) (iQ:(List Int)):Option Bool:=run C k 3 .bool [.val (.list (.int .u8)) iQ]
noncomputable def bn.l0 (k m:Nat) (vG:Int) (s0:(List oO)) (iX:Int) (rz:Int) (rA:Int) (rC:Int) (s2:(List aC)) (s3:(List aZ)) (s4:(List bT)) (s5:(List Int)) (s6:(List eX)) (s7:(List aZ)):Option Bool:=bq C k 3 .bool [0] [.r,.r,.r,.r,.l,.r,.b] [] [4,5,6] m ⟨[.one (.cell (.ref 1)),.one (.cell (.ptr 5 0)),.one (.cell (.int .i64 vG))],[.arr Fa s0 .open,.box (some lu) [.ref 9,.int .i64 iX,.int .i64 rz,.ref 13,.ref 17,.ref 21,.ref 25,.ref 29,.int .i64 rA,.int .i64 rC],.arr aP s2 .open,.arr aY s3 .open,.arr dL s4 .open,.arr (.int .i64) s5 .open,.arr gX s6 .open,.arr aY s7 .open]⟩
noncomputable def bn.l1 (k m m1:Nat) (vG:Int) (Fe:Int) (s0:(List oO)) (iX:Int) (rz:Int) (rA:Int) (rC:Int) (s2:(List aC)) (s3:(List aZ)) (s4:(List bT)) (s5:(List Int)) (s6:(List eX)) (s7:(List aZ)):Option Bool:=bq C k 3 .bool [0] [.r,.r,.r,.r,.l,.r,.b,.p,.r,.l,.b,.r,.r,.r,.r,.r,.b] [⟨[4,5,6],m1⟩] [4,5,6,9] m ⟨[.one (.cell (.ref 1)),.one (.cell (.ptr 5 0)),.one (.cell (.int .i64 vG)),.one (.cell (.int .i64 Fe))],[.arr Fa s0 .open,.box (some lu) [.ref 9,.int .i64 iX,.int .i64 rz,.ref 13,.ref 17,.ref 21,.ref 25,.ref 29,.int .i64 rA,.int .i64 rC],.arr aP s2 .open,.arr aY s3 .open,.arr dL s4 .open,.arr (.int .i64) s5 .open,.arr gX s6 .open,.arr aY s7 .open]⟩
noncomputable def bn.l2 (k m:Nat) (vG:Int) (Bw:Int) (s0:(List oO)) (iX:Int) (rz:Int) (rA:Int) (rC:Int) (s3:(List aC)) (s4:(List aZ)) (s5:(List bT)) (s6:(List Int)) (s7:(List eX)) (s8:(List aZ)) (s9:(List Int)) (s10:(List Int)):Option Bool:=bq C k 3 .bool [0] [.r,.r,.r,.r,.r,.r,.r,.l,.r,.b] [] [4,5,6,14,16] m ⟨[.one (.cell (.ref 1)),.one (.cell (.ptr 5 0)),.one (.cell (.int .i64 vG)),.one (.cell (.ptr 9 0)),.one (.cell (.int .i64 Bw))],[.arr Fa s0 .open,.box (some lu) [.ref 13,.int .i64 iX,.int .i64 rz,.ref 17,.ref 21,.ref 25,.ref 29,.ref 33,.int .i64 rA,.int .i64 rC],.box (some NN) [.ref 37,.ref 41],.arr aP s3 .open,.arr aY s4 .open,.arr dL s5 .open,.arr (.int .i64) s6 .open,.arr gX s7 .open,.arr aY s8 .open,.arr (.int .i64) s9 .open,.arr (.int .i64) s10 .open]⟩
noncomputable def bn.l3 (k m m1:Nat) (vG:Int) (Bw:Int) (Bn:Bool) (PZ:Int) (s0:(List oO)) (iX:Int) (rz:Int) (rA:Int) (rC:Int) (s3:(List aC)) (s4:(List aC)) (s5:(List aZ)) (s6:(List bT)) (s7:(List Int)) (s8:(List eX)) (s9:(List aZ)) (s10:(List Int)) (s11:(List Int)):Option Bool:=bq C k 3 .bool [0] [.r,.r,.r,.r,.r,.r,.r,.l,.r,.b,.p,.r,.l,.b,.r,.r,.b] [⟨[4,5,6,14,16],m1⟩] [4,5,6,14,16,17,18,19] m ⟨[.one (.cell (.ref 1)),.one (.cell (.ptr 5 0)),.one (.cell (.int .i64 vG)),.one (.cell (.ptr 9 0)),.one (.cell (.int .i64 Bw)),.one (.cell (.ref 13)),.one (.cell (.prop (Bn=true) (instDecidableEqBool Bn true))),.one (.cell (.int .i64 PZ))],[.arr Fa s0 .open,.box (some lu) [.ref 17,.int .i64 iX,.int .i64 rz,.ref 21,.ref 25,.ref 29,.ref 33,.ref 37,.int .i64 rA,.int .i64 rC],.box (some NN) [.ref 41,.ref 45],.arr aP s3 .open,.arr aP s4 .open,.arr aY s5 .open,.arr dL s6 .open,.arr (.int .i64) s7 .open,.arr gX s8 .open,.arr aY s9 .open,.arr (.int .i64) s10 .open,.arr (.int .i64) s11 .open]⟩
noncomputable def Qa (k:Nat) (iQ:(List Int)):Option Bool:=run C k 8 .bool [.val (.list (.int .u8)) iQ]
noncomputable def uV (k:Nat) (iQ:(List Int)):Option (cK × ((List oO) × Unit)):=run C k 9 (.pair lu (.pair (.list Fa) .unit)) [.val (.list (.int .u8)) iQ]
noncomputable def CS (k:Nat) (bI:cK) (x_1:oO):Option (cK × (Bool × Unit)):=run C k 10 (.pair lu (.pair .bool .unit)) [.val lu bI,.val Fa x_1]
noncomputable def cu (k:Nat) (bI:cK):Option Bool:=run C k 11 .bool [.val lu bI]
noncomputable def uW (k:Nat) (bI:cK):Option Bool:=run C k 12 .bool [.val lu bI]
noncomputable def dJ (k:Nat) (aG:(List aC)) (iJ:Int):Option ((List (List gY)) × (Bool × Unit)):=run C k 13 (.pair (.list (.list iB)) (.pair .bool .unit)) [.val (.list aP) aG,.val (.int .i64) iJ]
noncomputable def dJ.l0 (k m:Nat) (aG:(List aC)) (iJ:Int) (Bo:Int) (s0:(List (List gY))):Option ((List (List gY)) × (Bool × Unit)):=bq C k 13 (.pair (.list (.list iB)) (.pair .bool .unit)) [0,0] [.r,.r,.r,.l,.r,.b] [] [0,1,6,7] m ⟨[.one (.cell (.list false aP aG)),.one (.cell (.int .i64 iJ)),.one (.cell (.ref 1)),.one (.cell (.int .i64 Bo))],[.arr (.list iB) s0 .open]⟩
noncomputable def uX (k:Nat) (aG:(List aC)) (Ec:(List (List gY))):Option Bool:=run C k 14 .bool [.val (.list aP) aG,.val (.list (.list iB)) Ec]
noncomputable def fP (k:Nat) (aG:(List aC)) (bN:Int):Option (RP × (Bool × Unit)):=run C k 17 (.pair NN (.pair .bool .unit)) [.val (.list aP) aG,.val (.int .i64) bN]
noncomputable def fP.l0 (k m:Nat) (Ws:Int) (JM:Int) (s2:(List aC)) (s3:(List Int)) (s4:(List Int)):Option (RP × (Bool × Unit)):=bq C k 17 (.pair NN (.pair .bool .unit)) [0,0] [.r,.r,.r,.l,.r,.b] [] [4,6,18,19,20] m ⟨[.one (.cell (.ptr 1 0)),.one (.cell (.ptr 5 0)),.one (.cell (.ref 9)),.one (.cell (.int .i64 Ws)),.one (.cell (.int .i64 JM))],[.box (some NN) [.nil,.nil],.box (some NN) [.ref 13,.ref 17],.arr aP s2 .open,.arr (.int .i64) s3 .open,.arr (.int .i64) s4 .open]⟩
noncomputable def bC (k:Nat) (aG:(List aZ)) (qI:Int):Option (aZ × (Bool × Unit)):=run C k 15 (.pair aY (.pair .bool .unit)) [.val (.list aY) aG,.val (.int .i64) qI]
noncomputable def bC.l0 (k m:Nat) (aG:(List aZ)) (qI:Int) (lJ:(List aZ)) (lK:Int) (qJ:Int) (dK:Int) (dF:Int) (Fg:Int) (iX:Int):Option (aZ × (Bool × Unit)):=bq C k 15 (.pair aY (.pair .bool .unit)) [0,0] [.r,.r,.r,.l,.r,.b] [] [0,1,4,6,24,25,26] m ⟨[.one (.cell (.list false aY aG)),.one (.cell (.int .i64 qI)),.one (.cell (.ptr 1 0)),.one (.cell (.ptr 5 0)),.one (.cell (.list false aY lJ)),.one (.cell (.int .i64 lK)),.one (.cell (.int .i64 qJ))],[.box (some aY) [.int .i64 dK,.int .i64 dF],.box (some aY) [.int .i64 Fg,.int .i64 iX]]⟩
noncomputable def dR (k:Nat) (aG:(List aZ)) (RV:aZ):Option (aZ × (Bool × Unit)):=run C k 16 (.pair aY (.pair .bool .unit)) [.val (.list aY) aG,.val aY RV]
noncomputable def dR.l0 (k m:Nat) (aG:(List aZ)) (Qb:(List aZ)) (Wt:Int) (Lf:Int) (dK:Int) (dF:Int) (Fg:Int) (iX:Int) (Wu:Int) (JN:Int) (Wv:Int) (Ww:Int):Option (aZ × (Bool × Unit)):=bq C k 16 (.pair aY (.pair .bool .unit)) [0,0] [.r,.r,.r,.l,.r,.b] [] [0,3,4,6,7,39,40,41] m ⟨[.one (.cell (.list false aY aG)),.one (.cell (.ptr 1 0)),.one (.cell (.ptr 5 0)),.one (.cell (.ptr 9 0)),.one (.cell (.ptr 13 0)),.one (.cell (.list false aY Qb)),.one (.cell (.int .i64 Wt)),.one (.cell (.int .i64 Lf))],[.box (some aY) [.int .i64 dK,.int .i64 dF],.box (some aY) [.int .i64 Fg,.int .i64 iX],.box (some aY) [.int .i64 Wu,.int .i64 JN],.box (some aY) [.int .i64 Wv,.int .i64 Ww]]⟩
noncomputable def fH (k:Nat) (aG:(List aC)) (fT:Int) (yx:(List Int)) (pX:Int):Option ((List aC) × (Bool × Unit)):=run C k 18 (.pair (.list aP) (.pair .bool .unit)) [.val (.list aP) aG,.val (.int .i64) fT,.val (.list (.int .i64)) yx,.val (.int .i64) pX]
noncomputable def fH.l0 (k m:Nat) (aG:(List aC)) (fT:Int) (pX:Int) (Av:Int) (Fh:(List Int)) (JO:Int) (rT:Int) (iX:Int) (s2:(List Int)) (s3:(List Int)) (s4:(List Int)):Option ((List aC) × (Bool × Unit)):=bq C k 18 (.pair (.list aP) (.pair .bool .unit)) [0,0,0,0] [.r,.r,.r,.r,.r,.l,.r,.b] [] [0,1,3,10,12,14,36,37,38] m ⟨[.one (.cell (.list false aP aG)),.one (.cell (.int .i64 fT)),.one (.cell (.int .i64 pX)),.one (.cell (.ptr 1 0)),.one (.cell (.ptr 5 0)),.one (.cell (.int .i64 Av)),.one (.cell (.list false (.int .i64) Fh)),.one (.cell (.int .i64 JO)),.one (.cell (.int .i64 rT))],[.box (some NN) [.ref 9,.ref 13],.box (some wH) [.ref 17,.int .i64 iX],.arr (.int .i64) s2 .open,.arr (.int .i64) s3 .open,.arr (.int .i64) s4 .open]⟩
noncomputable def zi (k:Nat) (JQ:RP) (e_1:aC) (qX:Int):Option Bool:=run C k 19 .bool [.val NN JQ,.val aP e_1,.val (.int .i64) qX]
noncomputable def jv (k:Nat) (iQ:(List Int)):Option iH:=run C k 63 jY [.val (.list (.int .u8)) iQ]
noncomputable def jv.l0 (k m:Nat) (iQ:(List Int)) (h_3:Int) (xq:Int):Option iH:=Vj C k 63 jY 1 [.r,.r,.l,.r,.b] [] [0,3,4] m ⟨[.one (.cell (.list true (.int .u8) iQ)),.one (.cell (.int .i64 h_3)),.one (.cell (.int .i64 xq))],[]⟩
noncomputable def xM (k:Nat) (lV:iH):Option (cK × iH):=run C k 64 (.pair lu jY) [.iF jY lV]
noncomputable def iO (k:Nat) (lV:iH) (NT:Int):Option ((List oO) × iH):=run C k 65 (.pair (.list Fa) jY) [.iF jY lV,.val (.int .i64) NT]
noncomputable def iO.l0 (k m:Nat) (vG:Int) (dK:(List Int)) (dF:Int) (iw:Int) (s1:(List oO)):Option ((List oO) × iH):=zS C k 65 (.pair (.list Fa) jY) 0 jY 2 [.r,.r,.l,.r,.b] [] [0,5,6] m ⟨[.one (.cell (.ptr 1 0)),.one (.cell (.ref 5)),.one (.cell (.int .i64 vG))],[.box (some jY) [.list true (.int .u8) dK,.int .i64 dF,.int .i64 iw],.arr Fa s1 .open]⟩
noncomputable def rU (k:Nat) (bI:cK) (e_1:aC):Option (cK × (Bool × Unit)):=run C k 25 (.pair lu (.pair .bool .unit)) [.val lu bI,.val aP e_1]
noncomputable def rV (k:Nat) (bI:cK) (e_1:aC):Option (cK × (Bool × Unit)):=run C k 27 (.pair lu (.pair .bool .unit)) [.val lu bI,.val aP e_1]
noncomputable def rW (k:Nat) (bI:cK) (x_1:aZ):Option (cK × (Bool × Unit)):=run C k 29 (.pair lu (.pair .bool .unit)) [.val lu bI,.val aY x_1]
noncomputable def tZ (k:Nat) (bI:cK) (iJ:Int):Option (cK × (Bool × Unit)):=run C k 31 (.pair lu (.pair .bool .unit)) [.val lu bI,.val (.int .i64) iJ]
noncomputable def rX (k:Nat) (bI:cK) (id_1:Int):Option (cK × (Bool × Unit)):=run C k 33 (.pair lu (.pair .bool .unit)) [.val lu bI,.val (.int .i64) id_1]
noncomputable def uf (k:Nat) (bI:cK) (p_1:bT):Option (cK × (Bool × Unit)):=run C k 35 (.pair lu (.pair .bool .unit)) [.val lu bI,.val dL p_1]
noncomputable def ug (k:Nat) (bI:cK) (Tj:Int) (NU:Int) (Ik:Int) (Tk:Int):Option (cK × (Bool × Unit)):=run C k 37 (.pair lu (.pair .bool .unit)) [.val lu bI,.val (.int .i64) Tj,.val (.int .i64) NU,.val (.int .i64) Ik,.val (.int .i64) Tk]
noncomputable def uh (k:Nat) (bI:cK) (Dn:Int):Option (cK × (Bool × Unit)):=run C k 39 (.pair lu (.pair .bool .unit)) [.val lu bI,.val (.int .i64) Dn]
noncomputable def aA (k:Nat) (bI:cK):Option cK:=run C k 66 lu [.val lu bI]
noncomputable def aA.l0 (k m:Nat) (eH:(List bT)) (jl:Int) (iZ:Int) (dK:(List aC)) (dF:Int) (iw:Int) (lq:(List aZ)) (GI:(List bT)) (Wx:(List Int)) (Wy:(List eX)) (Wz:(List aZ)) (Fj:Int) (Fp:Int) (iX:Int) (rz:Int) (rA:Int) (rC:Int) (s2:(List bT)):Option cK:=bq C k 66 lu [0] [.r,.r,.l,.r,.b] [] [1,2,3,8,9,10] m ⟨[.one (.cell (.ptr 1 0)),.one (.cell (.ptr 5 0)),.one (.cell (.ref 9)),.one (.cell (.list false dL eH)),.one (.cell (.int .i64 jl)),.one (.cell (.int .i64 iZ))],[.box (some lu) [.list false aP dK,.int .i64 dF,.int .i64 iw,.list false aY lq,.list false dL GI,.list false (.int .i64) Wx,.list false gX Wy,.list false aY Wz,.int .i64 Fj,.int .i64 Fp],.box (some lu) [.nil,.int .i64 iX,.int .i64 rz,.nil,.nil,.nil,.nil,.nil,.int .i64 rA,.int .i64 rC],.arr dL s2 .open]⟩
noncomputable def aN (k:Nat) (aG:(List aC)):Option Bool:=run C k 59 .bool [.val (.list aP) aG]
noncomputable def aN.l0 (k m:Nat) (aG:(List aC)) (pO:(List aC)) (oP:Int) (dn:Int):Option Bool:=bq C k 59 .bool [0] [.r,.l,.r,.b] [] [0,5,6,7] m ⟨[.one (.cell (.list false aP aG)),.one (.cell (.list false aP pO)),.one (.cell (.int .i64 oP)),.one (.cell (.int .i64 dn))],[]⟩
noncomputable def vP (k:Nat) (KO:aZ):Option Bool:=run C k 67 .bool [.val aY KO]
noncomputable def dM (k:Nat) (aG:(List aZ)):Option Bool:=run C k 68 .bool [.val (.list aY) aG]
noncomputable def dM.l0 (k m:Nat) (aG:(List aZ)) (pO:(List aZ)) (oP:Int) (dn:Int):Option Bool:=bq C k 68 .bool [0] [.r,.l,.r,.b] [] [0,5,6,7] m ⟨[.one (.cell (.list false aY aG)),.one (.cell (.list false aY pO)),.one (.cell (.int .i64 oP)),.one (.cell (.int .i64 dn))],[]⟩
noncomputable def eD (k:Nat) (aG:(List eX)):Option Bool:=run C k 69 .bool [.val (.list gX) aG]
noncomputable def eD.l0 (k m:Nat) (aG:(List eX)) (pO:(List eX)) (oP:Int) (dn:Int):Option Bool:=bq C k 69 .bool [0] [.r,.l,.r,.b] [] [0,5,6,7] m ⟨[.one (.cell (.list false gX aG)),.one (.cell (.list false gX pO)),.one (.cell (.int .i64 oP)),.one (.cell (.int .i64 dn))],[]⟩
noncomputable def eO (k:Nat) (aG:(List aZ)):Option Bool:=run C k 70 .bool [.val (.list aY) aG]
noncomputable def eO.l0 (k m:Nat) (aG:(List aZ)) (pO:(List aZ)) (oP:Int) (dn:Int):Option Bool:=bq C k 70 .bool [0] [.r,.l,.r,.b] [] [0,5,6,7] m ⟨[.one (.cell (.list false aY aG)),.one (.cell (.list false aY pO)),.one (.cell (.int .i64 oP)),.one (.cell (.int .i64 dn))],[]⟩
noncomputable def dV (k:Nat) (aG:(List bT)) (dD:(List aC)) (bU:(List Int)):Option Bool:=run C k 71 .bool [.val (.list dL) aG,.val (.list aP) dD,.val (.list (.int .i64)) bU]
noncomputable def dV.l0 (k m:Nat) (aG:(List bT)) (bU:(List Int)) (RX:(List Int)) (WA:Int) (lJ:Int) (dK:(List aC)):Option Bool:=bq C k 71 .bool [0,0,0] [.r,.r,.l,.r,.b] [] [0,2,4,22,23,24] m ⟨[.one (.cell (.list false dL aG)),.one (.cell (.list false (.int .i64) bU)),.one (.cell (.ptr 1 0)),.one (.cell (.list false (.int .i64) RX)),.one (.cell (.int .i64 WA)),.one (.cell (.int .i64 lJ))],[.box (some (.list aP)) [.list false aP dK]]⟩
noncomputable def aK (k:Nat) (Eb:Int) (dX:Int) (bZ:Int):Option Bool:=run C k 72 .bool [.val (.int .i64) Eb,.val (.int .i64) dX,.val (.int .i64) bZ]
noncomputable def jO (k:Nat) (aG:(List aC)):Option Int:=run C k 74 (.int .i64) [.val (.list aP) aG]
noncomputable def jO.l0 (k m:Nat) (Qc:Int) (eH:(List aC)) (jl:Int) (iZ:Int):Option Int:=bq C k 74 (.int .i64) [0] [.r,.r,.l,.r,.t,.r,.b] [] [3,8,9,10] m ⟨[.one (.cell (.int .i64 Qc)),.one (.cell (.list false aP eH)),.one (.cell (.int .i64 jl)),.one (.cell (.int .i64 iZ))],[]⟩
noncomputable def eF (k:Nat) (aG:(List aC)) (bN:Int) (wK:Int):Option ((List gY) × (Bool × Unit)):=run C k 73 (.pair (.list iB) (.pair .bool .unit)) [.val (.list aP) aG,.val (.int .i64) bN,.val (.int .i64) wK]
noncomputable def eF.l0 (k m:Nat) (wK:Int) (Aw:Int) (lJ:Int) (lK:Int) (s0:(List gY)) (s1:(List aC)):Option ((List gY) × (Bool × Unit)):=bq C k 73 (.pair (.list iB) (.pair .bool .unit)) [0,0,0] [.r,.r,.r,.l,.r,.b] [] [2,8,9,23,24,25] m ⟨[.one (.cell (.int .i64 wK)),.one (.cell (.ref 1)),.one (.cell (.int .i64 Aw)),.one (.cell (.ref 5)),.one (.cell (.int .i64 lJ)),.one (.cell (.int .i64 lK))],[.arr iB s0 .open,.arr aP s1 .open]⟩
noncomputable def fU (k:Nat) (Bp:(List (List gY))):Option ((List aC) × (Bool × Unit)):=run C k 75 (.pair (.list aP) (.pair .bool .unit)) [.val (.list (.list iB)) Bp]
noncomputable def fU.l0 (k m:Nat) (kQ:(List (List gY))) (gH:Int) (Bz:Int) (s0:(List aC)):Option ((List aC) × (Bool × Unit)):=bq C k 75 (.pair (.list aP) (.pair .bool .unit)) [0] [.r,.r,.r,.l,.r,.b] [] [4,12,13,14] m ⟨[.one (.cell (.ref 1)),.one (.cell (.list false (.list iB) kQ)),.one (.cell (.int .i64 gH)),.one (.cell (.int .i64 Bz))],[.arr aP s0 .open]⟩
noncomputable def Fq (k:Nat) (aG:(List aC)) (iJ:Int):Option (List aC):=run C k 77 (.list aP) [.val (.list aP) aG,.val (.int .i64) iJ]
noncomputable def bM (k:Nat) (oQ:(List aC)) (pY:(List aC)):Option Bool:=run C k 76 .bool [.val (.list aP) oQ,.val (.list aP) pY]
noncomputable def bM.l0 (k m:Nat) (oQ:(List aC)) (pY:(List aC)) (kQ:Int) (gH:Int):Option Bool:=bq C k 76 .bool [0,0] [.r,.r,.l,.r,.b] [] [0,1,12,13] m ⟨[.one (.cell (.list false aP oQ)),.one (.cell (.list false aP pY)),.one (.cell (.int .i64 kQ)),.one (.cell (.int .i64 gH))],[]⟩
noncomputable def kg (k:Nat) (aG:(List aC)) (bN:Int):Option (List aC):=run C k 83 (.list aP) [.val (.list aP) aG,.val (.int .i64) bN]
noncomputable def iK (k:Nat) (Eb:Int) (Oq:Int):Option (aZ × (Bool × Unit)):=run C k 78 (.pair aY (.pair .bool .unit)) [.val (.int .i64) Eb,.val (.int .i64) Oq]
noncomputable def gU (k:Nat) (a_0:aZ) (b_1:aZ):Option (aZ × (Bool × Unit)):=run C k 79 (.pair aY (.pair .bool .unit)) [.val aY a_0,.val aY b_1]
noncomputable def jd (k:Nat) (YR:aZ):Option Bool:=run C k 80 .bool [.val aY YR]
noncomputable def rY (k:Nat) (a_0:aZ) (b_1:aZ):Option Bool:=run C k 81 .bool [.val aY a_0,.val aY b_1]
noncomputable def qd (k:Nat) (a_0:aZ) (b_1:aZ):Option (aZ × (Bool × Unit)):=run C k 82 (.pair aY (.pair .bool .unit)) [.val aY a_0,.val aY b_1]
noncomputable def dO (k:Nat) (fV:(List Int)):Option (BZ × (Bool × Unit)):=run C k 84 (.pair wH (.pair .bool .unit)) [.val (.list (.int .i64)) fV]
noncomputable def dO.l0 (k m:Nat) (Bz:Int) (xO:Int) (dF:Int) (iX:Int) (s2:(List Int)):Option (BZ × (Bool × Unit)):=bq C k 84 (.pair wH (.pair .bool .unit)) [0] [.r,.r,.r,.l,.r,.b] [] [2,4,14,15] m ⟨[.one (.cell (.ptr 1 0)),.one (.cell (.ptr 5 0)),.one (.cell (.int .i64 Bz)),.one (.cell (.int .i64 xO))],[.box (some wH) [.nil,.int .i64 dF],.box (some wH) [.ref 9,.int .i64 iX],.arr (.int .i64) s2 .open]⟩
noncomputable def eP (k:Nat) (fV:(List Int)) (GJ:BZ) (uj:Int):Option BZ:=run C k 85 wH [.val (.list (.int .i64)) fV,.val wH GJ,.val (.int .i64) uj]
noncomputable def eP.l0 (k m:Nat) (uj:Int) (Fh:(List Int)) (JO:Int) (rT:Int) (dK:(List Int)) (dF:Int) (iX:Int) (JN:Int) (s3:(List Int)):Option BZ:=bq C k 85 wH [0,0,0] [.r,.r,.r,.r,.r,.l,.r,.b] [] [2,4,6,7,36,37,38] m ⟨[.one (.cell (.int .i64 uj)),.one (.cell (.ptr 1 0)),.one (.cell (.ptr 5 0)),.one (.cell (.ptr 9 0)),.one (.cell (.list false (.int .i64) Fh)),.one (.cell (.int .i64 JO)),.one (.cell (.int .i64 rT))],[.box (some wH) [.list false (.int .i64) dK,.int .i64 dF],.box (some wH) [.nil,.int .i64 iX],.box (some wH) [.ref 13,.int .i64 JN],.arr (.int .i64) s3 .open]⟩
noncomputable def xP (k:Nat) (JQ:RP) (GJ:BZ) (Ed:Int):Option Int:=run C k 86 (.int .i64) [.val NN JQ,.val wH GJ,.val (.int .i64) Ed]
noncomputable def dz (k:Nat) (aG:(List aC)) (fT:Int) (sU:Int) (oU:Int):Option (List aC):=run C k 87 (.list aP) [.val (.list aP) aG,.val (.int .i64) fT,.val (.int .i64) sU,.val (.int .i64) oU]
noncomputable def dz.l0 (k m:Nat) (fT:Int) (sU:Int) (oU:Int) (xO:(List aC)) (Qd:Int) (CU:Int) (s0:(List aC)):Option (List aC):=bq C k 87 (.list aP) [0,0,0,0] [.r,.r,.l,.r,.t,.r,.b] [] [1,2,3,9,15,16,17] m ⟨[.one (.cell (.int .i64 fT)),.one (.cell (.int .i64 sU)),.one (.cell (.int .i64 oU)),.one (.cell (.ref 1)),.one (.cell (.list false aP xO)),.one (.cell (.int .i64 Qd)),.one (.cell (.int .i64 CU))],[.arr aP s0 .open]⟩
noncomputable def gD (k:Nat) (JQ:RP):Option Bool:=run C k 88 .bool [.val NN JQ]
noncomputable def gD.l0 (k m:Nat) (oP:(List Int)) (dn:Int) (eH:Int) (dK:(List Int)) (dF:(List Int)):Option Bool:=bq C k 88 .bool [0] [.r,.l,.r,.b] [] [1,6,7,8] m ⟨[.one (.cell (.ptr 1 0)),.one (.cell (.list false (.int .i64) oP)),.one (.cell (.int .i64 dn)),.one (.cell (.int .i64 eH))],[.box (some NN) [.list false (.int .i64) dK,.list false (.int .i64) dF]]⟩
noncomputable def zk (k:Nat) (lV:iH):Option (aZ × iH):=run C k 167 (.pair aY jY) [.iF jY lV]
noncomputable def fI (k:Nat) (lV:iH):Option ((List bT) × iH):=run C k 168 (.pair (.list dL) jY) [.iF jY lV]
noncomputable def fI.l0 (k m:Nat) (xq:Int) (dK:(List Int)) (dF:Int) (iw:Int) (s1:(List bT)):Option ((List bT) × iH):=zS C k 168 (.pair (.list dL) jY) 0 jY 1 [.r,.r,.l,.r,.b] [] [0,3,4] m ⟨[.one (.cell (.ptr 1 0)),.one (.cell (.ref 5)),.one (.cell (.int .i64 xq))],[.box (some jY) [.list true (.int .u8) dK,.int .i64 dF,.int .i64 iw],.arr dL s1 .open]⟩
noncomputable def rZ (k:Nat) (KO:aZ) (Bq:(List bT)):Option (cK × (Bool × Unit)):=run C k 166 (.pair lu (.pair .bool .unit)) [.val aY KO,.val (.list dL) Bq]
noncomputable def gV (k:Nat) (lV:iH):Option ((List aC) × iH):=run C k 170 (.pair (.list aP) jY) [.iF jY lV]
noncomputable def gV.l0 (k m:Nat) (mo:Int) (dK:(List Int)) (dF:Int) (iw:Int) (s1:(List aC)) (s2:(List aC)):Option ((List aC) × iH):=zS C k 170 (.pair (.list aP) jY) 0 jY 1 [.r,.r,.r,.l,.r,.b] [] [0,3,4,5] m ⟨[.one (.cell (.ptr 1 0)),.one (.cell (.ref 5)),.one (.cell (.ref 9)),.one (.cell (.int .i64 mo))],[.box (some jY) [.list true (.int .u8) dK,.int .i64 dF,.int .i64 iw],.arr aP s1 .open,.arr aP s2 .open]⟩
noncomputable def gW (k:Nat) (aG:(List aC)):Option (List oO):=run C k 169 (.list Fa) [.val (.list aP) aG]
noncomputable def gW.l0 (k m:Nat) (aG:(List aC)) (xq:Int) (s0:(List oO)):Option (List oO):=bq C k 169 (.list Fa) [0] [.r,.r,.l,.r,.b] [] [0,3,4] m ⟨[.one (.cell (.list false aP aG)),.one (.cell (.ref 1)),.one (.cell (.int .i64 xq))],[.arr Fa s0 .open]⟩
noncomputable def bK (k:Nat) (lV:iH) (Dn:Int):Option (Int × iH):=run C k 100 (.pair (.int .i64) jY) [.iF jY lV,.val (.int .i64) Dn]
noncomputable def Ay (k:Nat) (lV:iH):Option (oO × iH):=run C k 165 (.pair Fa jY) [.iF jY lV]
noncomputable def uY (k:Nat) (bI:cK) (eG:aC):Option (cK × (Bool × Unit)):=run C k 97 (.pair lu (.pair .bool .unit)) [.val lu bI,.nL 98 [.ro aP eG]]
noncomputable def sV (k:Nat) (bI:cK) (eG:aC):Option (cK × (Bool × Unit)):=run C k 97 (.pair lu (.pair .bool .unit)) [.val lu bI,.nL 101 [.ro aP eG]]
noncomputable def sW (k:Nat) (bI:cK) (eG:aZ):Option (cK × (Bool × Unit)):=run C k 97 (.pair lu (.pair .bool .unit)) [.val lu bI,.nL 103 [.ro aY eG]]
noncomputable def sZ (k:Nat) (bI:cK) (eG:Int):Option (cK × (Bool × Unit)):=run C k 97 (.pair lu (.pair .bool .unit)) [.val lu bI,.nL 107 [.ro (.int .i64) eG]]
noncomputable def tq (k:Nat) (bI:cK) (eG:Int):Option (cK × (Bool × Unit)):=run C k 97 (.pair lu (.pair .bool .unit)) [.val lu bI,.nL 109 [.ro (.int .i64) eG]]
noncomputable def tu (k:Nat) (bI:cK) (eG:bT):Option (cK × (Bool × Unit)):=run C k 97 (.pair lu (.pair .bool .unit)) [.val lu bI,.nL 116 [.ro dL eG]]
noncomputable def tC (k:Nat) (bI:cK) (eG:Int) (Ee:Int) (Ef:Int) (Yg:Int):Option (cK × (Bool × Unit)):=run C k 97 (.pair lu (.pair .bool .unit)) [.val lu bI,.nL 119 [.ro (.int .i64) eG,.ro (.int .i64) Ee,.ro (.int .i64) Ef,.ro (.int .i64) Yg]]
noncomputable def tF (k:Nat) (bI:cK) (eG:Int):Option (cK × (Bool × Unit)):=run C k 97 (.pair lu (.pair .bool .unit)) [.val lu bI,.nL 122 [.ro (.int .i64) eG]]
noncomputable def oV (k:Nat) (p_0:bT):Option bT:=run C k 118 dL [.val dL p_0]
noncomputable def bD (k:Nat) (aG:(List aC)):Option (List aC):=run C k 171 (.list aP) [.val (.list aP) aG]
noncomputable def nM (k:Nat) (aG:(List aZ)):Option (List aZ):=run C k 172 (.list aY) [.val (.list aY) aG]
noncomputable def oz (k:Nat) (aG:(List Int)):Option (List Int):=run C k 173 (.list (.int .i64)) [.val (.list (.int .i64)) aG]
noncomputable def iV (k:Nat) (aG:(List eX)):Option (List eX):=run C k 174 (.list gX) [.val (.list gX) aG]
noncomputable def mW (k:Nat) (aG:(List aZ)):Option (List aZ):=run C k 175 (.list aY) [.val (.list aY) aG]
noncomputable def fE (k:Nat) (a_0:aC) (b_1:aC):Option Int:=run C k 164 (.int .i64) [.val aP a_0,.val aP b_1]
noncomputable def oC (k:Nat) (a_0:eX) (b_1:eX):Option Int:=run C k 176 (.int .i64) [.val gX a_0,.val gX b_1]
noncomputable def aR (k:Nat) (aG:(List bT)):Option Bool:=run C k 177 .bool [.val (.list dL) aG]
noncomputable def aR.l0 (k m:Nat) (aG:(List bT)) (dn:(List bT)) (eH:Int) (jl:Int) (s0:(List Int)):Option Bool:=bq C k 177 .bool [0] [.r,.r,.l,.r,.b] [] [0,3,7,8,9] m ⟨[.one (.cell (.list false dL aG)),.one (.cell (.ref 1)),.one (.cell (.list false dL dn)),.one (.cell (.int .i64 eH)),.one (.cell (.int .i64 jl))],[.arr (.int .i64) s0 .open]⟩
noncomputable def cB (k:Nat) (s_0:(List Int)) (v_1:Int):Option Bool:=run C k 178 .bool [.val (.list (.int .i64)) s_0,.val (.int .i64) v_1]
noncomputable def iL (k:Nat) (s_0:(List bT)) (eG:Int) (Ee:(List aC)) (Ef:Int):Option Bool:=run C k 179 .bool [.val (.list dL) s_0,.nL 180 [.ro (.int .i64) eG,.ro (.list aP) Ee,.ro (.int .i64) Ef]]
noncomputable def eZ (k:Nat) (p_0:(List gY)):Option Bool:=run C k 182 .bool [.val (.list iB) p_0]
noncomputable def eZ.l0 (k m:Nat) (p_0:(List gY)) (Lg:Int) (dn:(List gY)) (eH:Int) (jl:Int):Option Bool:=bq C k 182 .bool [0] [.r,.r,.l,.r,.b] [] [0,3,7,8,9] m ⟨[.one (.cell (.list false iB p_0)),.one (.cell (.int .i64 Lg)),.one (.cell (.list false iB dn)),.one (.cell (.int .i64 eH)),.one (.cell (.int .i64 jl))],[]⟩
noncomputable def fZ (k:Nat) (p_0:(List gY)) (bN:Int):Option (List aC):=run C k 183 (.list aP) [.val (.list iB) p_0,.val (.int .i64) bN]
noncomputable def fZ.l0 (k m:Nat) (bN:Int) (fQ:(List gY)) (kQ:Int) (gH:Int) (s0:(List aC)):Option (List aC):=bq C k 183 (.list aP) [0,0] [.r,.r,.l,.r,.t,.r,.b] [] [1,5,11,12,13] m ⟨[.one (.cell (.int .i64 bN)),.one (.cell (.ref 1)),.one (.cell (.list false iB fQ)),.one (.cell (.int .i64 kQ)),.one (.cell (.int .i64 gH))],[.arr aP s0 .open]⟩
noncomputable def jw (k:Nat) (x_0:(List aC)):Option (Unit × (List aC)):=run C k 184 (.pair .unit (.list aP)) [.lend (.list aP) x_0,.nL 164 []]
noncomputable def aO (k:Nat) (s_0:(List aC)) (eG:Int):Option (List aC):=run C k 185 (.list aP) [.give (.list aP) s_0,.nL 186 [.ro (.int .i64) eG]]
noncomputable def aO.l0 (k m:Nat) (jK:Int) (mo:Int) (Ca:Int) (s0:(List aC)):Option (List aC):=bq C k 185 (.list aP) [0,0] [.r,.r,.r,.l,.r,.b] [] [0,1,5,6] m ⟨[.one (.cell (.ref 1)),.one (.cell (.nL 186 [.ro (.int .i64) jK])),.one (.cell (.int .i64 mo)),.one (.cell (.int .i64 Ca))],[.arr aP s0 .open]⟩
noncomputable def au (k:Nat) (s_0:(List aC)) (eG:Int):Option (List aC):=run C k 185 (.list aP) [.give (.list aP) s_0,.nL 189 [.ro (.int .i64) eG]]
noncomputable def au.l0 (k m:Nat) (jK:Int) (mo:Int) (Ca:Int) (s0:(List aC)):Option (List aC):=bq C k 185 (.list aP) [0,0] [.r,.r,.r,.l,.r,.b] [] [0,1,5,6] m ⟨[.one (.cell (.ref 1)),.one (.cell (.nL 189 [.ro (.int .i64) jK])),.one (.cell (.int .i64 mo)),.one (.cell (.int .i64 Ca))],[.arr aP s0 .open]⟩
noncomputable def uK (k:Nat) (Eb:Int) (Oq:Int):Option (aZ × (Bool × Unit)):=run C k 187 (.pair aY (.pair .bool .unit)) [.val (.int .i64) Eb,.val (.int .i64) Oq]
noncomputable def gF (k:Nat) (a_0:Int) (b_1:Int):Option Int:=run C k 188 (.int .i64) [.val (.int .i64) a_0,.val (.int .i64) b_1]
noncomputable def gF.l0 (k m:Nat) (a_0:Int) (b_1:Int):Option Int:=bq C k 188 (.int .i64) [0,0] [.r,.l,.b] [] [0,1] m ⟨[.one (.cell (.int .i64 a_0)),.one (.cell (.int .i64 b_1))],[]⟩
noncomputable def bQ (k:Nat) (fV:(List Int)) (GJ:BZ):Option Bool:=run C k 190 .bool [.val (.list (.int .i64)) fV,.val wH GJ]
noncomputable def bQ.l0 (k m:Nat) (fV:(List Int)) (eH:(List Int)) (jl:Int) (iZ:Int) (dK:(List Int)) (dF:Int):Option Bool:=bq C k 190 .bool [0,0] [.r,.l,.r,.b] [] [0,3,8,9,10] m ⟨[.one (.cell (.list false (.int .i64) fV)),.one (.cell (.ptr 1 0)),.one (.cell (.list false (.int .i64) eH)),.one (.cell (.int .i64 jl)),.one (.cell (.int .i64 iZ))],[.box (some wH) [.list false (.int .i64) dK,.int .i64 dF]]⟩
noncomputable def Az (k:Nat) (a_0:Int) (b_1:Int):Option Int:=run C k 191 (.int .i64) [.val (.int .i64) a_0,.val (.int .i64) b_1]
noncomputable def bX (k:Nat) (f_0:BZ) (nu:Int):Option aZ:=run C k 192 aY [.val wH f_0,.val (.int .i64) nu]
noncomputable def bX.l0 (k m:Nat) (nu:Int) (zl:Int) (JR:Int) (fQ:(List Int)) (kQ:Int) (gH:Int):Option aZ:=bq C k 192 aY [0,0] [.r,.r,.l,.r,.b] [] [1,6,7,11,12,13] m ⟨[.one (.cell (.int .i64 nu)),.one (.cell (.int .i64 zl)),.one (.cell (.int .i64 JR)),.one (.cell (.list false (.int .i64) fQ)),.one (.cell (.int .i64 kQ)),.one (.cell (.int .i64 gH))],[]⟩
noncomputable def CV (k:Nat) (lV:iH) (Fu:(List Int)):Option (Int × iH):=run C k 96 (.pair (.int .i64) jY) [.iF jY lV,.val (.list (.int .i64)) Fu]
noncomputable def zm (k:Nat) (bI:cK):Option cK:=run C k 134 lu [.val lu bI]
noncomputable def tH (k:Nat) (bI:cK):Option Bool:=run C k 212 .bool [.val lu bI]
noncomputable def gP (k:Nat) (lV:iH) (bN:Int) (zn:Int):Option ((List aC) × iH):=run C k 225 (.pair (.list aP) jY) [.iF jY lV,.val (.int .i64) bN,.val (.int .i64) zn]
noncomputable def gP.l0 (k m:Nat) (bN:Int) (RY:Int) (JU:Int) (dK:(List Int)) (dF:Int) (iw:Int) (s1:(List aC)):Option ((List aC) × iH):=zS C k 225 (.pair (.list aP) jY) 0 jY 3 [.r,.r,.r,.l,.r,.b] [] [0,1,7,8,9] m ⟨[.one (.cell (.ptr 1 0)),.one (.cell (.int .i64 bN)),.one (.cell (.ref 5)),.one (.cell (.int .i64 RY)),.one (.cell (.int .i64 JU))],[.box (some jY) [.list true (.int .u8) dK,.int .i64 dF,.int .i64 iw],.arr aP s1 .open]⟩
noncomputable def qg (k:Nat) (aG:(List aC)) (e_1:aC):Option ((List aC) × (Bool × Unit)):=run C k 226 (.pair (.list aP) (.pair .bool .unit)) [.val (.list aP) aG,.val aP e_1]
noncomputable def qY (k:Nat) (lV:iH):Option (Int × iH):=run C k 202 (.pair (.int .i64) jY) [.iF jY lV]
noncomputable def vQ (k:Nat) (lV:iH):Option (aC × iH):=run C k 94 (.pair aP jY) [.iF jY lV]
noncomputable def vR (k:Nat) (lV:iH):Option (eX × iH):=run C k 224 (.pair gX jY) [.iF jY lV]
noncomputable def kG (k:Nat) (bI:cK) (a_1:aC):Option (Bool × cK):=run C k 98 (.pair .bool lu) [.iF lu bI,.rp aP a_1]
noncomputable def mE (k:Nat) (bI:cK) (a_1:aC):Option (Bool × cK):=run C k 101 (.pair .bool lu) [.iF lu bI,.rp aP a_1]
noncomputable def mF (k:Nat) (bI:cK) (a_1:aZ):Option (Bool × cK):=run C k 103 (.pair .bool lu) [.iF lu bI,.rp aY a_1]
noncomputable def ny (k:Nat) (bI:cK) (a_1:Int):Option (Bool × cK):=run C k 107 (.pair .bool lu) [.iF lu bI,.rp (.int .i64) a_1]
noncomputable def kH (k:Nat) (bI:cK) (a_1:Int):Option (Bool × cK):=run C k 109 (.pair .bool lu) [.iF lu bI,.rp (.int .i64) a_1]
noncomputable def dx (k:Nat) (bI:cK) (a_1:bT):Option (Bool × cK):=run C k 116 (.pair .bool lu) [.iF lu bI,.rp dL a_1]
noncomputable def dx.l0 (k m:Nat) (t_1:bT) (Ug:Int) (fQ:Int) (kQ:Int) (dF:Int) (iw:Int) (Fj:Int) (Fp:Int) (s1:(List bT)) (s2:(List aC)) (s3:(List aZ)) (s4:(List Int)) (s5:(List eX)) (s6:(List aZ)):Option (Bool × cK):=zS C k 116 (.pair .bool lu) 0 lu 2 [.r,.r,.l,.r,.b] [] [0,1,4,10,11,12] m ⟨[.one (.cell (.ptr 1 0)),.one (.cell (.ru false dL t_1 0)),.one (.cell (.int .i64 Ug)),.one (.cell (.ref 5)),.one (.cell (.int .i64 fQ)),.one (.cell (.int .i64 kQ))],[.box (some lu) [.ref 9,.int .i64 dF,.int .i64 iw,.ref 13,.ref 5,.ref 17,.ref 21,.ref 25,.int .i64 Fj,.int .i64 Fp],.arr dL s1 .open,.arr aP s2 .open,.arr aY s3 .open,.arr (.int .i64) s4 .open,.arr gX s5 .open,.arr aY s6 .open]⟩
noncomputable def nA (k:Nat) (bI:cK) (a_1:Int) (a_2:Int) (Yh:Int) (a_4:Int):Option (Bool × cK):=run C k 119 (.pair .bool lu) [.iF lu bI,.rp (.int .i64) a_1,.rp (.int .i64) a_2,.rp (.int .i64) Yh,.rp (.int .i64) a_4]
noncomputable def nC (k:Nat) (bI:cK) (a_1:Int):Option (Bool × cK):=run C k 122 (.pair .bool lu) [.iF lu bI,.rp (.int .i64) a_1]
noncomputable def cmp_Compare_int (k:Nat) (x_0:Int) (y_1:Int):Option Int:=run C k 223 (.int .i64) [.val (.int .i64) x_0,.val (.int .i64) y_1]
noncomputable def aS (k:Nat) (oq:(List Int)):Option Int:=run C k 222 (.int .i64) [.val (.list (.int .i64)) oq]
noncomputable def aS.l0 (k m:Nat) (mh:Int) (oP:(List Int)) (dn:Int) (eH:Int):Option Int:=bq C k 222 (.int .i64) [0] [.r,.r,.l,.r,.b] [] [3,6,7,8] m ⟨[.one (.cell (.int .i64 mh)),.one (.cell (.list false (.int .i64) oP)),.one (.cell (.int .i64 dn)),.one (.cell (.int .i64 eH))],[]⟩
noncomputable def aW (k:Nat) (aG:(List Int)) (dX:Int) (bZ:Int):Option Bool:=run C k 227 .bool [.val (.list (.int .i64)) aG,.val (.int .i64) dX,.val (.int .i64) bZ]
noncomputable def aW.l0 (k m:Nat) (aG:(List Int)) (dX:Int) (bZ:Int) (jl:(List Int)) (iZ:Int) (fQ:Int):Option Bool:=bq C k 227 .bool [0,0,0] [.r,.l,.r,.b] [] [0,1,2,9,10,11] m ⟨[.one (.cell (.list false (.int .i64) aG)),.one (.cell (.int .i64 dX)),.one (.cell (.int .i64 bZ)),.one (.cell (.list false (.int .i64) jl)),.one (.cell (.int .i64 iZ)),.one (.cell (.int .i64 fQ))],[]⟩
noncomputable def aD (k:Nat) (s_0:(List Int)) (v_1:Int):Option Int:=run C k 112 (.int .i64) [.val (.list (.int .i64)) s_0,.val (.int .i64) v_1]
noncomputable def aD.l0 (k m:Nat) (s_0:(List Int)) (v_1:Int) (dn:Int) (eH:Int):Option Int:=bq C k 112 (.int .i64) [0,0] [.r,.l,.r,.b] [] [0,1,7,8] m ⟨[.one (.cell (.list false (.int .i64) s_0)),.one (.cell (.int .i64 v_1)),.one (.cell (.int .i64 dn)),.one (.cell (.int .i64 eH))],[]⟩
noncomputable def aT (k:Nat) (s_0:(List bT)) (eG:Int) (Ee:(List aC)) (Ef:Int):Option Int:=run C k 110 (.int .i64) [.val (.list dL) s_0,.nL 180 [.ro (.int .i64) eG,.ro (.list aP) Ee,.ro (.int .i64) Ef]]
noncomputable def aT.l0 (k m:Nat) (s_0:(List bT)) (iU:Int) (Eh:(List aC)) (Ei:Int) (dn:Int) (eH:Int):Option Int:=bq C k 110 (.int .i64) [0,0] [.r,.l,.r,.b] [] [0,1,7,8] m ⟨[.one (.cell (.list false dL s_0)),.one (.cell (.nL 180 [.ro (.int .i64) iU,.ro (.list aP) Eh,.ro (.int .i64) Ei])),.one (.cell (.int .i64 dn)),.one (.cell (.int .i64 eH))],[]⟩
noncomputable def aQ (k:Nat) (s_0:(List aC)) (eG:Int):Option Int:=run C k 194 (.int .i64) [.val (.list aP) s_0,.nL 186 [.ro (.int .i64) eG]]
noncomputable def aQ.l0 (k m:Nat) (s_0:(List aC)) (iU:Int) (dn:Int) (eH:Int):Option Int:=bq C k 194 (.int .i64) [0,0] [.r,.l,.r,.b] [] [0,1,7,8] m ⟨[.one (.cell (.list false aP s_0)),.one (.cell (.nL 186 [.ro (.int .i64) iU])),.one (.cell (.int .i64 dn)),.one (.cell (.int .i64 eH))],[]⟩
noncomputable def xu (k:Nat) (KN:aC) (a_1:Int):Option Bool:=run C k 186 .bool [.val aP KN,.rp (.int .i64) a_1]
noncomputable def ay (k:Nat) (s_0:(List aC)) (eG:Int):Option Int:=run C k 194 (.int .i64) [.val (.list aP) s_0,.nL 189 [.ro (.int .i64) eG]]
noncomputable def ay.l0 (k m:Nat) (s_0:(List aC)) (iU:Int) (dn:Int) (eH:Int):Option Int:=bq C k 194 (.int .i64) [0,0] [.r,.l,.r,.b] [] [0,1,7,8] m ⟨[.one (.cell (.list false aP s_0)),.one (.cell (.nL 189 [.ro (.int .i64) iU])),.one (.cell (.int .i64 dn)),.one (.cell (.int .i64 eH))],[]⟩
noncomputable def jc (k:Nat) (KN:aC) (a_1:Int):Option Bool:=run C k 189 .bool [.val aP KN,.rp (.int .i64) a_1]
noncomputable def ig (k:Nat) (aG:(List bT)):Option (List bT):=run C k 135 (.list dL) [.val (.list dL) aG]
noncomputable def ig.l0 (k m:Nat) (aG:(List bT)) (xq:Int) (s0:(List bT)):Option (List bT):=bq C k 135 (.list dL) [0] [.r,.r,.l,.r,.b] [] [0,3,4] m ⟨[.one (.cell (.list false dL aG)),.one (.cell (.ref 1)),.one (.cell (.int .i64 xq))],[.arr dL s0 .open]⟩
noncomputable def dZ (k:Nat) (aG:(List aC)):Option Bool:=run C k 247 .bool [.val (.list aP) aG]
noncomputable def dZ.l0 (k m:Nat) (aG:(List aC)) (iW:Int):Option Bool:=bq C k 247 .bool [0] [.r,.l,.r,.b] [] [0,3] m ⟨[.one (.cell (.list false aP aG)),.one (.cell (.int .i64 iW))],[]⟩
noncomputable def zo (k:Nat) (KO:aZ):Option Bool:=run C k 248 .bool [.val aY KO]
noncomputable def fC (k:Nat) (aG:(List aZ)):Option Bool:=run C k 249 .bool [.val (.list aY) aG]
noncomputable def fC.l0 (k m:Nat) (aG:(List aZ)) (iW:Int):Option Bool:=bq C k 249 .bool [0] [.r,.l,.r,.b] [] [0,3] m ⟨[.one (.cell (.list false aY aG)),.one (.cell (.int .i64 iW))],[]⟩
noncomputable def fu (k:Nat) (aG:(List eX)):Option Bool:=run C k 250 .bool [.val (.list gX) aG]
noncomputable def fu.l0 (k m:Nat) (aG:(List eX)) (iW:Int):Option Bool:=bq C k 250 .bool [0] [.r,.l,.r,.b] [] [0,3] m ⟨[.one (.cell (.list false gX aG)),.one (.cell (.int .i64 iW))],[]⟩
noncomputable def eT (k:Nat) (aG:(List aZ)):Option Bool:=run C k 251 .bool [.val (.list aY) aG]
noncomputable def eT.l0 (k m:Nat) (aG:(List aZ)) (iW:Int):Option Bool:=bq C k 251 .bool [0] [.r,.l,.r,.b] [] [0,3] m ⟨[.one (.cell (.list false aY aG)),.one (.cell (.int .i64 iW))],[]⟩
noncomputable def aX (k:Nat) (aG:(List bT)) (dD:(List aC)) (bU:(List Int)):Option Bool:=run C k 252 .bool [.val (.list dL) aG,.val (.list aP) dD,.val (.list (.int .i64)) bU]
noncomputable def aX.l0 (k m:Nat) (aG:(List bT)) (dD:(List aC)) (bU:(List Int)) (Cc:Int):Option Bool:=bq C k 252 .bool [0,0,0] [.r,.l,.r,.b] [] [0,1,2,7] m ⟨[.one (.cell (.list false dL aG)),.one (.cell (.list false aP dD)),.one (.cell (.list false (.int .i64) bU)),.one (.cell (.int .i64 Cc))],[]⟩
noncomputable def aX.l1 (k m m1:Nat) (aG:(List bT)) (dD:(List aC)) (bU:(List Int)) (Cc:Int) (Fv:Bool) (Fe:Int):Option Bool:=bq C k 252 .bool [0,0,0] [.r,.l,.r,.b,.p,.r,.l,.b,.r,.l,.r,.b] [⟨[0,1,2,7],m1⟩] [0,1,2,7,8,9] m ⟨[.one (.cell (.list false dL aG)),.one (.cell (.list false aP dD)),.one (.cell (.list false (.int .i64) bU)),.one (.cell (.int .i64 Cc)),.one (.cell (.prop (Fv=true) (instDecidableEqBool Fv true))),.one (.cell (.int .i64 Fe))],[]⟩
noncomputable def gq (k:Nat) (x_0:Int) (Il:Int) (zn:Int):Option Bool:=run C k 236 .bool [.val (.int .i64) x_0,.val (.int .i64) Il,.val (.int .i64) zn]
noncomputable def AA (k:Nat) (lV:iH) (Dn:Int):Option (Bool × iH):=run C k 95 (.pair .bool jY) [.iF jY lV,.val (.int .i64) Dn]
noncomputable def jP (k:Nat) (aG:(List aC)) (e_1:aC):Option (List aC):=run C k 255 (.list aP) [.val (.list aP) aG,.val aP e_1]
noncomputable def jP.l0 (k m:Nat) (aG:(List aC)) (vS:Int) (dK:Int) (dF:Int) (iw:Int) (lq:Int):Option (List aC):=bq C k 255 (.list aP) [0,0] [.r,.r,.l,.b] [] [0,3,5] m ⟨[.one (.cell (.list false aP aG)),.one (.cell (.ptr 1 0)),.one (.cell (.int .i64 vS))],[.box (some aP) [.int .i64 dK,.int .i64 dF,.int .i64 iw,.int .i64 lq]]⟩
noncomputable def xQ (k:Nat) (aG:(List aC)) (e_1:aC):Option ((List aC) × (Bool × Unit)):=run C k 99 (.pair (.list aP) (.pair .bool .unit)) [.val (.list aP) aG,.val aP e_1]
noncomputable def wL (k:Nat) (aG:(List aC)) (e_1:aC):Option ((List aC) × (Bool × Unit)):=run C k 102 (.pair (.list aP) (.pair .bool .unit)) [.val (.list aP) aG,.val aP e_1]
noncomputable def bf (k:Nat) (s_0:(List aZ)) (eG:aZ):Option Int:=run C k 104 (.int .i64) [.val (.list aY) s_0,.nL 105 [.ro aY eG]]
noncomputable def bf.l0 (k m:Nat) (s_0:(List aZ)) (iU:aZ) (dn:Int) (eH:Int):Option Int:=bq C k 104 (.int .i64) [0,0] [.r,.l,.r,.b] [] [0,1,7,8] m ⟨[.one (.cell (.list false aY s_0)),.one (.cell (.nL 105 [.ro aY iU])),.one (.cell (.int .i64 dn)),.one (.cell (.int .i64 eH))],[]⟩
noncomputable def lM (k:Nat) (s_0:(List aZ)) (Ej:Int) (NV:(List aZ)):Option (List aZ):=run C k 106 (.list aY) [.give (.list aY) s_0,.val (.int .i64) Ej,.val (.list aY) NV]
noncomputable def tJ (k:Nat) (aG:(List bT)) (dD:(List aC)) (El:Int):Option ((List Int) × (Bool × Unit)):=run C k 108 (.pair (.list (.int .i64)) (.pair .bool .unit)) [.val (.list dL) aG,.val (.list aP) dD,.val (.int .i64) El]
noncomputable def aU (k:Nat) (s_0:(List bT)) (eG:Int):Option Int:=run C k 110 (.int .i64) [.val (.list dL) s_0,.nL 111 [.ro (.int .i64) eG]]
noncomputable def aU.l0 (k m:Nat) (s_0:(List bT)) (iU:Int) (dn:Int) (eH:Int):Option Int:=bq C k 110 (.int .i64) [0,0] [.r,.l,.r,.b] [] [0,1,7,8] m ⟨[.one (.cell (.list false dL s_0)),.one (.cell (.nL 111 [.ro (.int .i64) iU])),.one (.cell (.int .i64 dn)),.one (.cell (.int .i64 eH))],[]⟩
noncomputable def dP (k:Nat) (aG:(List bT)) (dD:(List aC)) (bU:(List Int)) (qC:Int):Option (Int × (Bool × Unit)):=run C k 113 (.pair (.int .i64) (.pair .bool .unit)) [.val (.list dL) aG,.val (.list aP) dD,.val (.list (.int .i64)) bU,.val (.int .i64) qC]
noncomputable def dP.l0 (k m:Nat) (dD:(List aC)) (bU:(List Int)) (qC:Int) (lJ:(List bT)) (lK:Int) (qJ:Int):Option (Int × (Bool × Unit)):=bq C k 113 (.pair (.int .i64) (.pair .bool .unit)) [0,0,0,0] [.r,.r,.l,.r,.b] [] [1,2,3,24,25,26] m ⟨[.one (.cell (.list false aP dD)),.one (.cell (.list false (.int .i64) bU)),.one (.cell (.int .i64 qC)),.one (.cell (.list false dL lJ)),.one (.cell (.int .i64 lK)),.one (.cell (.int .i64 qJ))],[]⟩
noncomputable def jk (k:Nat) (s_0:(List bT)) (Ej:Int) (Yi:Int):Option (List bT):=run C k 114 (.list dL) [.give (.list dL) s_0,.val (.int .i64) Ej,.val (.int .i64) Yi]
noncomputable def kR (k:Nat) (s_0:(List bT)) (Ej:Int) (NV:(List bT)):Option (List bT):=run C k 117 (.list dL) [.give (.list dL) s_0,.val (.int .i64) Ej,.val (.list dL) NV]
noncomputable def zq (k:Nat) (aG:(List eX)) (x_1:eX):Option (List eX):=run C k 120 (.list gX) [.val (.list gX) aG,.val gX x_1]
noncomputable def bS (k:Nat) (oQ:(List eX)) (pY:(List eX)):Option Bool:=run C k 121 .bool [.val (.list gX) oQ,.val (.list gX) pY]
noncomputable def bS.l0 (k m:Nat) (oQ:(List eX)) (pY:(List eX)) (kQ:Int) (gH:Int):Option Bool:=bq C k 121 .bool [0,0] [.r,.r,.l,.r,.b] [] [0,1,12,13] m ⟨[.one (.cell (.list false gX oQ)),.one (.cell (.list false gX pY)),.one (.cell (.int .i64 kQ)),.one (.cell (.int .i64 gH))],[]⟩
noncomputable def cmp_isNaN_int (k:Nat) (x_0:Int):Option Bool:=run C k 254 .bool [.val (.int .i64) x_0]
noncomputable def tK (k:Nat) (p_0:bT) (a_1:Int) (a_2:(List aC)) (Yh:Int):Option Bool:=run C k 180 .bool [.val dL p_0,.rp (.int .i64) a_1,.rp (.list aP) a_2,.rp (.int .i64) Yh]
noncomputable def Fw (k:Nat) (KN:aC):Option Bool:=run C k 275 .bool [.val aP KN]
noncomputable def um (k:Nat) (a_0:aC) (b_1:aC):Option Bool:=run C k 276 .bool [.val aP a_0,.val aP b_1]
noncomputable def wM (k:Nat) (a_0:eX) (b_1:eX):Option Bool:=run C k 277 .bool [.val gX a_0,.val gX b_1]
noncomputable def aM (k:Nat) (aG:(List bT)):Option Bool:=run C k 267 .bool [.val (.list dL) aG]
noncomputable def aM.l0 (k m:Nat) (aG:(List bT)) (iW:Int):Option Bool:=bq C k 267 .bool [0] [.r,.l,.r,.b] [] [0,3] m ⟨[.one (.cell (.list false dL aG)),.one (.cell (.int .i64 iW))],[]⟩
noncomputable def aM.l1 (k m m1:Nat) (aG:(List bT)) (iW:Int) (vS:Int) (dK:Int) (dF:Int) (iw:Int) (lq:(List Int)):Option Bool:=bq C k 267 .bool [0] [.r,.l,.r,.b,.p,.r,.l,.b,.r,.r,.r,.b] [⟨[0,3],m1⟩] [0,3,4,5] m ⟨[.one (.cell (.list false dL aG)),.one (.cell (.int .i64 iW)),.one (.cell (.ptr 1 0)),.one (.cell (.int .i64 vS))],[.box (some dL) [.int .i64 dK,.int .i64 dF,.int .i64 iw,.list true (.int .i64) lq]]⟩
noncomputable def zu (k:Nat) (p_0:bT) (l_1:(List aC)) (lg:Int):Option Bool:=run C k 278 .bool [.val dL p_0,.val (.list aP) l_1,.val (.int .i64) lg]
noncomputable def iD (k:Nat) (aG:(List Int)) (Dn:Int):Option Bool:=run C k 279 .bool [.val (.list (.int .i64)) aG,.val (.int .i64) Dn]
noncomputable def iD.l0 (k m:Nat) (aG:(List Int)) (Dn:Int) (mo:Int):Option Bool:=bq C k 279 .bool [0,0] [.r,.l,.r,.b] [] [0,1,5] m ⟨[.one (.cell (.list false (.int .i64) aG)),.one (.cell (.int .i64 Dn)),.one (.cell (.int .i64 mo))],[]⟩
noncomputable def bg (k:Nat) (s_0:(List aC)) (eG:aC):Option Int:=run C k 194 (.int .i64) [.val (.list aP) s_0,.nL 200 [.ro aP eG]]
noncomputable def bg.l0 (k m:Nat) (s_0:(List aC)) (iU:aC) (dn:Int) (eH:Int):Option Int:=bq C k 194 (.int .i64) [0,0] [.r,.l,.r,.b] [] [0,1,7,8] m ⟨[.one (.cell (.list false aP s_0)),.one (.cell (.nL 200 [.ro aP iU])),.one (.cell (.int .i64 dn)),.one (.cell (.int .i64 eH))],[]⟩
noncomputable def jE (k:Nat) (s_0:(List aC)) (Ej:Int) (NV:(List aC)):Option (List aC):=run C k 201 (.list aP) [.give (.list aP) s_0,.val (.int .i64) Ej,.val (.list aP) NV]
noncomputable def bV (k:Nat) (s_0:(List aC)) (v_1:aC):Option Int:=run C k 203 (.int .i64) [.val (.list aP) s_0,.val aP v_1]
noncomputable def bV.l0 (k m:Nat) (s_0:(List aC)) (dn:Int) (eH:Int) (dK:Int) (dF:Int) (iw:Int) (lq:Int):Option Int:=bq C k 203 (.int .i64) [0,0] [.r,.l,.r,.b] [] [0,3,7,8] m ⟨[.one (.cell (.list false aP s_0)),.one (.cell (.ptr 1 0)),.one (.cell (.int .i64 dn)),.one (.cell (.int .i64 eH))],[.box (some aP) [.int .i64 dK,.int .i64 dF,.int .i64 iw,.int .i64 lq]]⟩
noncomputable def lN (k:Nat) (s_0:(List aC)) (Ej:Int) (Yi:Int):Option (List aC):=run C k 204 (.list aP) [.give (.list aP) s_0,.val (.int .i64) Ej,.val (.int .i64) Yi]
noncomputable def wN (k:Nat) (t_0:aZ) (a_1:aZ):Option Bool:=run C k 105 .bool [.val aY t_0,.rp aY a_1]
noncomputable def wP (k:Nat) (p_0:bT) (a_1:Int):Option Bool:=run C k 111 .bool [.val dL p_0,.rp (.int .i64) a_1]
noncomputable def jZ (k:Nat) (p_0:bT) (l_1:(List aC)) (lg:Int):Option Bool:=run C k 181 .bool [.val dL p_0,.val (.list aP) l_1,.val (.int .i64) lg]
noncomputable def JV (k:Nat) (aG:(List eX)) (x_1:eX):Option (List eX):=run C k 211 (.list gX) [.give (.list gX) aG,.val gX x_1]
noncomputable def gG (k:Nat) (aG:(List aC)) (bN:Int):Option (List aC):=run C k 292 (.list aP) [.val (.list aP) aG,.val (.int .i64) bN]
noncomputable def gG.l0 (k m:Nat) (aG:(List aC)) (bN:Int) (vG:Int) (s0:(List aC)):Option (List aC):=bq C k 292 (.list aP) [0,0] [.r,.r,.l,.r,.b] [] [0,1,5,6] m ⟨[.one (.cell (.list false aP aG)),.one (.cell (.int .i64 bN)),.one (.cell (.ref 1)),.one (.cell (.int .i64 vG))],[.arr aP s0 .open]⟩
noncomputable def fJ (k:Nat) (aG:(List aC)) (dX:Int) (bZ:Int):Option Bool:=run C k 291 .bool [.val (.list aP) aG,.val (.int .i64) dX,.val (.int .i64) bZ]
noncomputable def fJ.l0 (k m:Nat) (aG:(List aC)) (dX:Int) (bZ:Int) (Cc:Int):Option Bool:=bq C k 291 .bool [0,0,0] [.r,.l,.r,.b] [] [0,1,2,7] m ⟨[.one (.cell (.list false aP aG)),.one (.cell (.int .i64 dX)),.one (.cell (.int .i64 bZ)),.one (.cell (.int .i64 Cc))],[]⟩
noncomputable def uZ (k:Nat) (Tm:aC) (a_1:aC):Option Bool:=run C k 200 .bool [.val aP Tm,.rp aP a_1]
noncomputable def bB (k:Nat) (aG:(List aC)) (dX:Int) (bZ:Int):Option Bool:=run C k 228 .bool [.val (.list aP) aG,.val (.int .i64) dX,.val (.int .i64) bZ]
noncomputable def bB.l0 (k m:Nat) (aG:(List aC)) (dX:Int) (bZ:Int) (jl:(List aC)) (iZ:Int) (fQ:Int):Option Bool:=bq C k 228 .bool [0,0,0] [.r,.l,.r,.b] [] [0,1,2,9,10,11] m ⟨[.one (.cell (.list false aP aG)),.one (.cell (.int .i64 dX)),.one (.cell (.int .i64 bZ)),.one (.cell (.list false aP jl)),.one (.cell (.int .i64 iZ)),.one (.cell (.int .i64 fQ))],[]⟩
noncomputable def aL (k:Nat) (x_0:(List eX)) (uL:eX):Option (Int × (Bool × Unit)):=run C k 244 (.pair (.int .i64) (.pair .bool .unit)) [.val (.list gX) x_0,.val gX uL,.nL 176 []]
noncomputable def aL.l0 (k m:Nat) (x_0:(List eX)) (n_8:Int) (JU:Int) (Lh:Int) (dK:Int) (dF:Int) (iw:Int) (lq:Int) (GI:Int):Option (Int × (Bool × Unit)):=bq C k 244 (.pair (.int .i64) (.pair .bool .unit)) [0,0,0] [.r,.r,.r,.l,.b] [] [0,2,4,8,9,10] m ⟨[.one (.cell (.list false gX x_0)),.one (.cell (.nL 176 [])),.one (.cell (.ptr 1 0)),.one (.cell (.int .i64 n_8)),.one (.cell (.int .i64 JU)),.one (.cell (.int .i64 Lh))],[.box (some gX) [.int .i64 dK,.int .i64 dF,.int .i64 iw,.int .i64 lq,.int .i64 GI]]⟩
noncomputable def qZ (k:Nat) (s_0:(List eX)) (Ej:Int) (NV:(List eX)):Option (List eX):=run C k 245 (.list gX) [.give (.list gX) s_0,.val (.int .i64) Ej,.val (.list gX) NV]
noncomputable def zw (k:Nat) (a_0:eX) (b_1:eX):Option Bool:=run C k 246 .bool [.val gX a_0,.val gX b_1]
theorem Ce (k:Nat) (iQ):bn (k+1) iQ =
 (Qa k iQ).bind fun r1=>
 if r1=true then
 some true
 else (uV k iQ).bind fun r2=>
 bn.l0 k k 0 r2.2.1 r2.1.2.1.1 r2.1.2.1.2.1 r2.1.2.2.2.2.2.2.2.1 r2.1.2.2.2.2.2.2.2.2.1 r2.1.1 r2.1.2.2.1 r2.1.2.2.2.1 r2.1.2.2.2.2.1 r2.1.2.2.2.2.2.1 r2.1.2.2.2.2.2.2.1:=by kernel_rfl
theorem bn.aj (k m:Nat) (vG s0 iX rz rA rC s2 s3 s4 s5 s6 s7):bn.l0 k (m+1) vG s0 iX rz rA rC s2 s3 s4 s5 s6 s7 =
 if (vG:Int)<((List.length s0:Nat):Int) then
 if 0<=vG then
 if vG<((List.length s0:Nat):Int) then
 (CS k (s2,((iX,(rz,())),(s3,(s4,(s5,(s6,(s7,(rA,(rC,()))))))))) (rd Fa s0 vG)).bind fun r3=>
 (cu k r3.1).bind fun r4=>
 if ¬ (r4=true) then
 some false
 else (uW k r3.1).bind fun r5=>
 if ¬ (r5=true) then
 some false
 else (dJ k r3.1.1 2).bind fun r6=>
 if r6.2.1=true then
 (uX k r3.1.1 r6.1).bind fun r7=>
 if ¬ (r7=true) then
 some false
 else bn.l1 k k m vG 0 s0 r3.1.2.1.1 r3.1.2.1.2.1 r3.1.2.2.2.2.2.2.2.1 r3.1.2.2.2.2.2.2.2.2.1 r3.1.1 r3.1.2.2.1 r3.1.2.2.2.1 r3.1.2.2.2.2.1 r3.1.2.2.2.2.2.1 r3.1.2.2.2.2.2.2.1
 else bn.l1 k k m vG 0 s0 r3.1.2.1.1 r3.1.2.1.2.1 r3.1.2.2.2.2.2.2.2.1 r3.1.2.2.2.2.2.2.2.2.1 r3.1.1 r3.1.2.2.1 r3.1.2.2.2.1 r3.1.2.2.2.2.1 r3.1.2.2.2.2.2.1 r3.1.2.2.2.2.2.2.1 else none else none
 else (fP k s2 1).bind fun r8=>
 if ¬ (r8.2.1=true) then
 some false
 else bn.l2 k k vG 0 s0 iX rz rA rC s2 s3 s4 s5 s6 s7 r8.1.1 r8.1.2.1:=by kernel_rfl
theorem bn.yA (k m m1:Nat) (vG Fe s0 iX rz rA rC s2 s3 s4 s5 s6 s7):bn.l1 k (m+1) m1 vG Fe s0 iX rz rA rC s2 s3 s4 s5 s6 s7 =
 if (Fe:Int)<((List.length s2:Nat):Int) then
 if 0<=Fe then
 if Fe<((List.length s2:Nat):Int) then
 (bC k s3 (rd aP s2 Fe).1).bind fun r9=>
 (dR k s3 r9.1).bind fun Yj=>
 if r9.2.1=true then
 if Yj.2.1=true then
 if 0<=Fe then
 if Fe<((List.length s2:Nat):Int) then
 if ¬ (((Yj.1.1:Int)=(rd aP s2 Fe).1)/\((Yj.1.2.1:Int)=1)) then
 some false
 else bn.l1 k m m1 vG (IntKind.wrap .i64 (Fe+1)) s0 iX rz rA rC s2 s3 s4 s5 s6 s7 else none else none
 else bn.l1 k m m1 vG (IntKind.wrap .i64 (Fe+1)) s0 iX rz rA rC s2 s3 s4 s5 s6 s7
 else bn.l1 k m m1 vG (IntKind.wrap .i64 (Fe+1)) s0 iX rz rA rC s2 s3 s4 s5 s6 s7 else none else none
 else bn.l0 k m1 (IntKind.wrap .i64 (vG+1)) s0 iX rz rA rC s2 s3 s4 s5 s6 s7:=by kernel_rfl
theorem bn.YS (k m:Nat) (vG Bw s0 iX rz rA rC s3 s4 s5 s6 s7 s8 s9 s10):bn.l2 k (m+1) vG Bw s0 iX rz rA rC s3 s4 s5 s6 s7 s8 s9 s10 =
 if (Bw:Int)<=((List.length s9:Nat):Int) then
 if 0<=Bw then
 if Bw<=((List.length s9:Nat):Int) then
 (fH k s3 1 (List.take ((Int.toNat Bw) - (Int.toNat 0)) (List.drop (Int.toNat 0) s9)) 0).bind fun YT=>
 bn.l3 k k m vG Bw (decide (YT.2.1=true)) 0 s0 iX rz rA rC YT.1 s3 s4 s5 s6 s7 s8 s9 s10 else none else none
 else some true:=by kernel_rfl
theorem bn.WB (k m m1:Nat) (vG Bw Bn PZ s0 iX rz rA rC s3 s4 s5 s6 s7 s8 s9 s10 s11):bn.l3 k (m+1) m1 vG Bw Bn PZ s0 iX rz rA rC s3 s4 s5 s6 s7 s8 s9 s10 s11 =
 if (PZ:Int)<((List.length s3:Nat):Int) then
 if Bn=true then
 if 0<=PZ then
 if PZ<((List.length s3:Nat):Int) then
 (zi k (s10,(s11,())) (rd aP s3 PZ) Bw).bind fun ZQ=>
 if ZQ=true then
 some false
 else bn.l3 k m m1 vG Bw (decide (Bn=true)) (IntKind.wrap .i64 (PZ+1)) s0 iX rz rA rC s3 s4 s5 s6 s7 s8 s9 s10 s11 else none else none
 else bn.l2 k m1 vG (IntKind.wrap .i64 (Bw+1)) s0 iX rz rA rC s4 s5 s6 s7 s8 s9 s10 s11
 else bn.l2 k m1 vG (IntKind.wrap .i64 (Bw+1)) s0 iX rz rA rC s4 s5 s6 s7 s8 s9 s10 s11:=by kernel_rfl
theorem Gq (k:Nat) (iQ):Qa (k+1) iQ =
 some (decide ((1048576:Int)<((List.length iQ:Nat):Int))):=by kernel_rfl
theorem CW (k:Nat) (iQ):uV (k+1) iQ =
 (jv k iQ).bind fun r1=>
 (xM k r1).bind fun r2=>
 (iO k r2.2 9).bind fun r3=>
 some (r2.1,(r3.1,())):=by kernel_rfl
theorem jF (k:Nat) (bI x_1):CS (k+1) bI x_1 =
 if (x_1.1:Int)=1 then
 (rU k bI x_1.2.2.1).bind fun r1=>
 some (r1.1,(decide (r1.2.1=true),()))
 else if (x_1.1:Int)=2 then
 (rV k bI x_1.2.2.1).bind fun r2=>
 some (r2.1,(decide (r2.2.1=true),()))
 else if (x_1.1:Int)=3 then
 (rW k bI x_1.2.2.2.1).bind fun r3=>
 some (r3.1,(decide (r3.2.1=true),()))
 else if (x_1.1:Int)=4 then
 (tZ k bI x_1.2.1).bind fun r4=>
 some (r4.1,(decide (r4.2.1=true),()))
 else if (x_1.1:Int)=5 then
 (rX k bI x_1.2.1).bind fun r5=>
 some (r5.1,(decide (r5.2.1=true),()))
 else if (x_1.1:Int)=6 then
 (uf k bI x_1.2.2.2.2.1).bind fun r6=>
 some (r6.1,(decide (r6.2.1=true),()))
 else if (x_1.1:Int)=7 then
 (ug k bI x_1.2.2.2.2.2.1.1 x_1.2.2.2.2.2.1.2.1 x_1.2.2.2.2.2.1.2.2.1 x_1.2.2.2.2.2.1.2.2.2.2.1).bind fun r7=>
 some (r7.1,(decide (r7.2.1=true),()))
 else if (x_1.1:Int)=8 then
 (uh k bI x_1.2.1).bind fun r8=>
 some (r8.1,(decide (r8.2.1=true),()))
 else (aA k bI).bind fun r9=>
 some (r9,(false,())):=by kernel_rfl
theorem dW (k:Nat) (bI):cu (k+1) bI =
 (aN k bI.1).bind fun r1=>
 if r1=true then
 (vP k bI.2.1).bind fun r2=>
 if r2=true then
 (dM k bI.2.2.1).bind fun r3=>
 if r3=true then
 (eD k bI.2.2.2.2.2.1).bind fun r4=>
 if r4=true then
 (eO k bI.2.2.2.2.2.2.1).bind fun r5=>
 if r5=true then
 (dV k bI.2.2.2.1 bI.1 bI.2.2.2.2.1).bind fun r6=>
 if r6=true then
 (aK k bI.2.2.2.2.2.2.2.1 1 9999).bind fun r7=>
 if r7=true then
 (aK k bI.2.2.2.2.2.2.2.2.1 0 100000).bind fun r8=>
 some (decide (r8=true))
 else some false
 else some false
 else some false
 else some false
 else some false
 else some false
 else some false:=by kernel_rfl
theorem CX (k:Nat) (bI):uW (k+1) bI =
 (dV k bI.2.2.2.1 bI.1 bI.2.2.2.2.1).bind fun r1=>
 some (decide (r1=true)):=by kernel_rfl
theorem Em (k:Nat) (aG iJ):dJ (k+1) aG iJ =
 (aN k aG).bind fun r1=>
 if ¬ (r1=true) then
 some ([],(false,()))
 else (aK k iJ 1 4).bind fun r2=>
 if ¬ (r2=true) then
 some ([],(false,()))
 else dJ.l0 k k aG iJ 1 []:=by kernel_rfl
theorem dJ.aj (k m:Nat) (aG iJ Bo s0):dJ.l0 k (m+1) aG iJ Bo s0 =
 if (Bo:Int)<=iJ then
 (jO k aG).bind fun r3=>
 (eF k aG Bo r3).bind fun r4=>
 if ¬ (r4.2.1=true) then
 some ([],(false,()))
 else if (List.length s0+List.length ([r4.1]:(List (List gY))))*24<=211106232532992 then
 dJ.l0 k m aG iJ (IntKind.wrap .i64 (Bo+1)) (s0++([r4.1]:(List (List gY)))) else none
 else some (s0,(true,())):=by kernel_rfl
theorem CY (k:Nat) (aG Ec):uX (k+1) aG Ec =
 (fU k Ec).bind fun r1=>
 if r1.2.1=true then
 (Fq k aG ((List.length Ec:Nat):Int)).bind fun r2=>
 (bM k r1.1 r2).bind fun r3=>
 some (decide (r3=true))
 else some false:=by kernel_rfl
theorem GK (k:Nat) (aG bN):fP (k+1) aG bN =
 (aN k aG).bind fun r1=>
 if ¬ (r1=true) then
 some (([],([],())),(false,()))
 else (kg k aG bN).bind fun r2=>
 fP.l0 k k ((List.length r2:Nat):Int) 0 r2 [] []:=by kernel_rfl
theorem fP.aj (k m:Nat) (Ws JM s2 s3 s4):fP.l0 k (m+1) Ws JM s2 s3 s4 =
 if (JM:Int)<Ws then
 if 0<=JM then
 if JM<((List.length s2:Nat):Int) then
 if (List.length s3+List.length ([(rd aP s2 JM).2.2.1]:(List Int)))*8<=211106232532992 then
 if (List.length s4+List.length ([(rd aP s2 JM).1]:(List Int)))*8<=211106232532992 then
 fP.l0 k m Ws (IntKind.wrap .i64 (JM+1)) s2 (s3++([(rd aP s2 JM).2.2.1]:(List Int))) (s4++([(rd aP s2 JM).1]:(List Int))) else none else none else none else none
 else some ((s3,(s4,())),(true,())):=by kernel_rfl
theorem oD (k:Nat) (aG qI):bC (k+1) aG qI =
 (dM k aG).bind fun r1=>
 if ¬ (r1=true) then
 some ((0,(0,())),(false,()))
 else (aK k qI 0 2000).bind fun r2=>
 if ¬ (r2=true) then
 some ((0,(0,())),(false,()))
 else bC.l0 k k aG qI aG ((List.length aG:Nat):Int) 0 0 0 0 1:=by kernel_rfl
theorem bC.aj (k m:Nat) (aG qI lJ lK qJ dK dF Fg iX):bC.l0 k (m+1) aG qI lJ lK qJ dK dF Fg iX =
 if (qJ:Int)<lK then
 if 0<=qJ then
 if qJ<((List.length lJ:Nat):Int) then
 if ((IntKind.wrap .i64 (qJ+1)):Int)<((List.length aG:Nat):Int) then
 if 0<=(IntKind.wrap .i64 (qJ+1)) then
 if (IntKind.wrap .i64 (qJ+1))<((List.length aG:Nat):Int) then
 if LE.le (α:=Int) (min qI (rd aY aG (IntKind.wrap .i64 (qJ+1))).1:Int) (rd aY lJ qJ).1 then
 some ((Fg,(iX,())),(true,()))
 else (iK k (IntKind.wrap .i64 ((IntKind.wrap .i64 ((min qI (rd aY aG (IntKind.wrap .i64 (qJ+1))).1:Int) - (rd aY lJ qJ).1))*5000)) (rd aY lJ qJ).2.1).bind fun r3=>
 (gU k (Fg,(iX,())) r3.1).bind fun r4=>
 if ¬ (r3.2.1=true) then
 some ((0,(0,())),(false,()))
 else if ¬ (r4.2.1=true) then
 some ((0,(0,())),(false,()))
 else bC.l0 k m aG qI lJ lK (IntKind.wrap .i64 (qJ+1)) dK dF r4.1.1 r4.1.2.1 else none else none
 else if LE.le (α:=Int) qI (rd aY lJ qJ).1 then
 some ((Fg,(iX,())),(true,()))
 else (iK k (IntKind.wrap .i64 ((IntKind.wrap .i64 (qI - (rd aY lJ qJ).1))*5000)) (rd aY lJ qJ).2.1).bind fun r5=>
 (gU k (Fg,(iX,())) r5.1).bind fun r6=>
 if ¬ (r5.2.1=true) then
 some ((0,(0,())),(false,()))
 else if ¬ (r6.2.1=true) then
 some ((0,(0,())),(false,()))
 else bC.l0 k m aG qI lJ lK (IntKind.wrap .i64 (qJ+1)) dK dF r6.1.1 r6.1.2.1 else none else none
 else some ((Fg,(iX,())),(true,())):=by kernel_rfl
theorem mG (k:Nat) (aG RV):dR (k+1) aG RV =
 (dM k aG).bind fun r1=>
 if ¬ (r1=true) then
 some ((0,(0,())),(false,()))
 else (jd k RV).bind fun r2=>
 if ¬ (r2=true) then
 some ((0,(0,())),(false,()))
 else if (RV.1:Int)<0 then
 some ((0,(0,())),(false,()))
 else if 0<=0 then
 if 0<((List.length aG:Nat):Int) then
 if 0<=1 then
 if 1<=((List.length aG:Nat):Int) then
 dR.l0 k k aG (List.take ((Int.toNat ((List.length aG:Nat):Int)) - (Int.toNat 1)) (List.drop (Int.toNat 1) aG)) ((List.length (List.take ((Int.toNat ((List.length aG:Nat):Int)) - (Int.toNat 1)) (List.drop (Int.toNat 1) aG)):Nat):Int) 0 RV.1 RV.2.1 0 0 (rd aY aG 0).1 (rd aY aG 0).2.1 0 1 else none else none else none else none:=by kernel_rfl
theorem dR.aj (k m:Nat) (aG Qb Wt Lf dK dF Fg iX Wu JN Wv Ww):dR.l0 k (m+1) aG Qb Wt Lf dK dF Fg iX Wu JN Wv Ww =
 if (Lf:Int)<Wt then
 if 0<=Lf then
 if Lf<((List.length Qb:Nat):Int) then
 (bC k aG (rd aY Qb Lf).1).bind fun r3=>
 if ¬ (r3.2.1=true) then
 some ((0,(0,())),(false,()))
 else (rY k (dK,(dF,())) r3.1).bind fun r4=>
 if r4=true then
 (gU k (dK,(dF,())) (IntKind.wrap .i64 (-Wv),(Ww,()))).bind fun r5=>
 (iK k JN 5000).bind fun r6=>
 (qd k r5.1 r6.1).bind fun r7=>
 (gU k (Wu,(1,())) r7.1).bind fun r8=>
 if ¬ (r5.2.1=true) then
 some ((0,(0,())),(false,()))
 else if ¬ (r6.2.1=true) then
 some ((0,(0,())),(false,()))
 else if ¬ (r7.2.1=true) then
 some ((0,(0,())),(false,()))
 else if ¬ (r8.2.1=true) then
 some ((0,(0,())),(false,()))
 else some (r8.1,(true,()))
 else dR.l0 k m aG Qb Wt (IntKind.wrap .i64 (Lf+1)) dK dF Fg iX (rd aY Qb Lf).1 (rd aY Qb Lf).2.1 r3.1.1 r3.1.2.1 else none else none
 else (gU k (dK,(dF,())) (IntKind.wrap .i64 (-Wv),(Ww,()))).bind fun r9=>
 (iK k JN 5000).bind fun Yj=>
 (qd k r9.1 Yj.1).bind fun YT=>
 (gU k (Wu,(1,())) YT.1).bind fun ZQ=>
 if ¬ (r9.2.1=true) then
 some ((0,(0,())),(false,()))
 else if ¬ (Yj.2.1=true) then
 some ((0,(0,())),(false,()))
 else if ¬ (YT.2.1=true) then
 some ((0,(0,())),(false,()))
 else if ¬ (ZQ.2.1=true) then
 some ((0,(0,())),(false,()))
 else some (ZQ.1,(true,())):=by kernel_rfl
theorem xw (k:Nat) (aG fT yx pX):fH (k+1) aG fT yx pX =
 (fP k aG fT).bind fun r1=>
 (dO k r1.1.1).bind fun r2=>
 if ¬ (r1.2.1=true) then
 some ([],(false,()))
 else if ¬ (r2.2.1=true) then
 some ([],(false,()))
 else fH.l0 k k aG fT pX (-1) yx ((List.length yx:Nat):Int) 0 r2.1.2.1 r1.1.1 r1.1.2.1 r2.1.1:=by kernel_rfl
theorem fH.aj (k m:Nat) (aG fT pX Av Fh JO rT iX s2 s3 s4):fH.l0 k (m+1) aG fT pX Av Fh JO rT iX s2 s3 s4 =
 if (rT:Int)<JO then
 if 0<=rT then
 if rT<((List.length Fh:Nat):Int) then
 (eP k s2 (s4,(iX,())) (rd (.int .i64) Fh rT)).bind fun r3=>
 (xP k (s2,(s3,())) r3 pX).bind fun r4=>
 fH.l0 k m aG fT pX (max Av r4:Int) Fh JO (IntKind.wrap .i64 (rT+1)) r3.2.1 s2 s3 r3.1 else none else none
 else (dz k aG fT (-1) Av).bind fun r5=>
 some (r5,(true,())):=by kernel_rfl
theorem zH (k:Nat) (JQ e_1 qX):zi (k+1) JQ e_1 qX =
 (gD k JQ).bind fun r1=>
 if ¬ (r1=true) then
 some false
 else if (((List.length JQ.2.1:Nat):Int):Int)<qX then
 some false
 else if (qX:Int)<1 then
 some true
 else if 0<=(IntKind.wrap .i64 (qX - 1)) then
 if (IntKind.wrap .i64 (qX - 1))<((List.length JQ.2.1:Nat):Int) then
 some (decide (LT.lt (α:=Int) (rd (.int .i64) JQ.2.1 (IntKind.wrap .i64 (qX - 1))) e_1.1)) else none else none:=by kernel_rfl
theorem Li (k:Nat) (iQ):jv (k+1) iQ =
 jv.l0 k k iQ (IntKind.wrap .i64 (193017+((List.length iQ:Nat):Int))) 0:=by kernel_rfl
theorem jv.aj (k m:Nat) (iQ h_3 xq):jv.l0 k (m+1) iQ h_3 xq =
 if (xq:Int)<((List.length iQ:Nat):Int) then
 if (xq:Int)<4000 then
 if 0<=xq then
 if xq<((List.length iQ:Nat):Int) then
 jv.l0 k m iQ (IntKind.wrap .i64 (((BitVec.ofInt (IntKind.bits .i64) (IntKind.wrap .i64 ((IntKind.wrap .i64 ((IntKind.wrap .i64 (h_3*137))+(IntKind.wrap .i64 ((rd (.int .u8) iQ xq)))))+11)) &&& BitVec.ofInt (IntKind.bits .i64) 1073741823).toNat:Nat))) (IntKind.wrap .i64 (xq+1)) else none else none
 else some (iQ,(0,(h_3,())))
 else some (iQ,(0,(h_3,()))):=by kernel_rfl
theorem Fx (k:Nat) (lV):xM (k+1) lV =
 (zk k lV).bind fun r1=>
 (fI k r1.2).bind fun r2=>
 (rZ k r1.1 r2.1).bind fun r3=>
 some (r3.1,r2.2):=by kernel_rfl
theorem GL (k:Nat) (lV NT):iO (k+1) lV NT =
 (gV k lV).bind fun r1=>
 (gW k r1.1).bind fun r2=>
 if (List.length r2+List.length ([(4,(2,((0,(0,(0,(0,())))),((0,(0,())),((0,(0,(0,([],())))),((0,(0,(0,(0,(0,()))))),()))))))]:(List oO)))*152<=211106232532992 then
 (bK k r1.2 NT).bind fun r3=>
 iO.l0 k k r3.1 r3.2.1 r3.2.2.1 r3.2.2.2.1 (r2++([(4,(2,((0,(0,(0,(0,())))),((0,(0,())),((0,(0,(0,([],())))),((0,(0,(0,(0,(0,()))))),()))))))]:(List oO))) else none:=by kernel_rfl
theorem iO.aj (k m:Nat) (vG dK dF iw s1):iO.l0 k (m+1) vG dK dF iw s1 =
 if (0:Int)<vG then
 (Ay k (dK,(dF,(iw,())))).bind fun r4=>
 if (List.length s1+List.length ([r4.1]:(List oO)))*152<=211106232532992 then
 iO.l0 k m (IntKind.wrap .i64 (vG - 1)) r4.2.1 r4.2.2.1 r4.2.2.2.1 (s1++([r4.1]:(List oO))) else none
 else some (s1,(dK,(dF,(iw,())))):=by kernel_rfl
theorem En (k:Nat) (bI e_1):rU (k+1) bI e_1 =
 (uY k bI e_1).bind fun r1=>
 some (r1.1,(decide (r1.2.1=true),())):=by kernel_rfl
theorem Eo (k:Nat) (bI e_1):rV (k+1) bI e_1 =
 (sV k bI e_1).bind fun r1=>
 some (r1.1,(decide (r1.2.1=true),())):=by kernel_rfl
theorem Ep (k:Nat) (bI x_1):rW (k+1) bI x_1 =
 (sW k bI x_1).bind fun r1=>
 some (r1.1,(decide (r1.2.1=true),())):=by kernel_rfl
theorem Fy (k:Nat) (bI iJ):tZ (k+1) bI iJ =
 (sZ k bI iJ).bind fun r1=>
 some (r1.1,(decide (r1.2.1=true),())):=by kernel_rfl
theorem Er (k:Nat) (bI id_1):rX (k+1) bI id_1 =
 (tq k bI id_1).bind fun r1=>
 some (r1.1,(decide (r1.2.1=true),())):=by kernel_rfl
theorem Fz (k:Nat) (bI p_1):uf (k+1) bI p_1 =
 (tu k bI p_1).bind fun r1=>
 some (r1.1,(decide (r1.2.1=true),())):=by kernel_rfl
theorem FC (k:Nat) (bI Tj NU Ik Tk):ug (k+1) bI Tj NU Ik Tk =
 (tC k bI Tj NU Ik Tk).bind fun r1=>
 some (r1.1,(decide (r1.2.1=true),())):=by kernel_rfl
theorem FD (k:Nat) (bI Dn):uh (k+1) bI Dn =
 (tF k bI Dn).bind fun r1=>
 some (r1.1,(decide (r1.2.1=true),())):=by kernel_rfl
theorem wS (k:Nat) (bI):aA (k+1) bI =
 aA.l0 k k bI.2.2.2.1 ((List.length bI.2.2.2.1:Nat):Int) 0 bI.1 bI.2.1.1 bI.2.1.2.1 bI.2.2.1 bI.2.2.2.1 bI.2.2.2.2.1 bI.2.2.2.2.2.1 bI.2.2.2.2.2.2.1 bI.2.2.2.2.2.2.2.1 bI.2.2.2.2.2.2.2.2.1 0 0 0 0 []:=by kernel_rfl
theorem aA.aj (k m:Nat) (eH jl iZ dK dF iw lq GI Wx Wy Wz Fj Fp iX rz rA rC s2):aA.l0 k (m+1) eH jl iZ dK dF iw lq GI Wx Wy Wz Fj Fp iX rz rA rC s2 =
 if (iZ:Int)<jl then
 if 0<=iZ then
 if iZ<((List.length eH:Nat):Int) then
 (oV k (rd dL eH iZ)).bind fun r1=>
 if (List.length s2+List.length ([r1]:(List bT)))*48<=211106232532992 then
 aA.l0 k m eH jl (IntKind.wrap .i64 (iZ+1)) dK dF iw lq GI Wx Wy Wz Fj Fp iX rz rA rC (s2++([r1]:(List bT))) else none else none else none
 else (bD k dK).bind fun r2=>
 (nM k lq).bind fun r3=>
 (oz k Wx).bind fun r4=>
 (iV k Wy).bind fun r5=>
 (mW k Wz).bind fun r6=>
 some (r2,((dF,(iw,())),(r3,(s2,(r4,(r5,(r6,(Fj,(Fp,()))))))))):=by kernel_rfl
theorem uT (k:Nat) (aG):aN (k+1) aG =
 aN.l0 k k aG aG ((List.length aG:Nat):Int) 0:=by kernel_rfl
theorem aN.aj (k m:Nat) (aG pO oP dn):aN.l0 k (m+1) aG pO oP dn =
 if (dn:Int)<oP then
 if 0<=dn then
 if dn<((List.length pO:Nat):Int) then
 (aK k (rd aP pO dn).1 0 2000).bind fun r1=>
 if ¬ (r1=true) then
 some false
 else (aK k (rd aP pO dn).2.1 1 96).bind fun r2=>
 if ¬ (r2=true) then
 some false
 else (aK k (rd aP pO dn).2.2.1 21 108).bind fun r3=>
 if ¬ (r3=true) then
 some false
 else (aK k (rd aP pO dn).2.2.2.1 1 4).bind fun r4=>
 if ¬ (r4=true) then
 some false
 else if (0:Int)<dn then
 if 0<=(IntKind.wrap .i64 (dn - 1)) then
 if (IntKind.wrap .i64 (dn - 1))<((List.length aG:Nat):Int) then
 (fE k (rd aP aG (IntKind.wrap .i64 (dn - 1))) (rd aP pO dn)).bind fun r5=>
 if (0:Int)<=r5 then
 some false
 else aN.l0 k m aG pO oP (IntKind.wrap .i64 (dn+1)) else none else none
 else aN.l0 k m aG pO oP (IntKind.wrap .i64 (dn+1)) else none else none
 else some (decide ((((List.length aG:Nat):Int):Int)<=40)):=by kernel_rfl
theorem kT (k:Nat) (KO):vP (k+1) KO =
 (aK k KO.1 1 12).bind fun r1=>
 if r1=true then
 if (KO.2.1:Int)=1 then
 some true
 else if (KO.2.1:Int)=2 then
 some true
 else if (KO.2.1:Int)=4 then
 some true
 else some (decide ((KO.2.1:Int)=8))
 else some false:=by kernel_rfl
theorem GN (k:Nat) (aG):dM (k+1) aG =
 dM.l0 k k aG aG ((List.length aG:Nat):Int) 0:=by kernel_rfl
theorem dM.aj (k m:Nat) (aG pO oP dn):dM.l0 k (m+1) aG pO oP dn =
 if (dn:Int)<oP then
 if 0<=dn then
 if dn<((List.length pO:Nat):Int) then
 if (dn:Int)=0 then
 if Ne (α:=Int) (rd aY pO dn).1 0 then
 some false
 else if (0:Int)<dn then
 if 0<=(IntKind.wrap .i64 (dn - 1)) then
 if (IntKind.wrap .i64 (dn - 1))<((List.length aG:Nat):Int) then
 if LE.le (α:=Int) (rd aY pO dn).1 (rd aY aG (IntKind.wrap .i64 (dn - 1))).1 then
 some false
 else if LT.lt (α:=Int) 2000 (rd aY pO dn).1 then
 some false
 else (aK k (rd aY pO dn).2.1 20 300).bind fun r1=>
 if ¬ (r1=true) then
 some false
 else dM.l0 k m aG pO oP (IntKind.wrap .i64 (dn+1)) else none else none
 else if LT.lt (α:=Int) 2000 (rd aY pO dn).1 then
 some false
 else (aK k (rd aY pO dn).2.1 20 300).bind fun r2=>
 if ¬ (r2=true) then
 some false
 else dM.l0 k m aG pO oP (IntKind.wrap .i64 (dn+1))
 else if (0:Int)<dn then
 if 0<=(IntKind.wrap .i64 (dn - 1)) then
 if (IntKind.wrap .i64 (dn - 1))<((List.length aG:Nat):Int) then
 if LE.le (α:=Int) (rd aY pO dn).1 (rd aY aG (IntKind.wrap .i64 (dn - 1))).1 then
 some false
 else if LT.lt (α:=Int) 2000 (rd aY pO dn).1 then
 some false
 else (aK k (rd aY pO dn).2.1 20 300).bind fun r3=>
 if ¬ (r3=true) then
 some false
 else dM.l0 k m aG pO oP (IntKind.wrap .i64 (dn+1)) else none else none
 else if LT.lt (α:=Int) 2000 (rd aY pO dn).1 then
 some false
 else (aK k (rd aY pO dn).2.1 20 300).bind fun r4=>
 if ¬ (r4=true) then
 some false
 else dM.l0 k m aG pO oP (IntKind.wrap .i64 (dn+1)) else none else none
 else (aK k ((List.length aG:Nat):Int) 1 8).bind fun r5=>
 some (decide (r5=true)):=by kernel_rfl
theorem FE (k:Nat) (aG):eD (k+1) aG =
 eD.l0 k k aG aG ((List.length aG:Nat):Int) 0:=by kernel_rfl
theorem eD.aj (k m:Nat) (aG pO oP dn):eD.l0 k (m+1) aG pO oP dn =
 if (dn:Int)<oP then
 if 0<=dn then
 if dn<((List.length pO:Nat):Int) then
 (aK k (rd gX pO dn).1 1 100).bind fun r1=>
 if ¬ (r1=true) then
 some false
 else (aK k (rd gX pO dn).2.1 1 4).bind fun r2=>
 if ¬ (r2=true) then
 some false
 else (aK k (rd gX pO dn).2.2.1 0 9).bind fun r3=>
 if ¬ (r3=true) then
 some false
 else (aK k (rd gX pO dn).2.2.2.1 0 100000).bind fun r4=>
 if ¬ (r4=true) then
 some false
 else (aK k (rd gX pO dn).2.2.2.2.1 1 99).bind fun r5=>
 if ¬ (r5=true) then
 some false
 else if (0:Int)<dn then
 if 0<=(IntKind.wrap .i64 (dn - 1)) then
 if (IntKind.wrap .i64 (dn - 1))<((List.length aG:Nat):Int) then
 (oC k (rd gX aG (IntKind.wrap .i64 (dn - 1))) (rd gX pO dn)).bind fun r6=>
 if (0:Int)<=r6 then
 some false
 else eD.l0 k m aG pO oP (IntKind.wrap .i64 (dn+1)) else none else none
 else eD.l0 k m aG pO oP (IntKind.wrap .i64 (dn+1)) else none else none
 else some (decide ((((List.length aG:Nat):Int):Int)<=30)):=by kernel_rfl
theorem CZ (k:Nat) (aG):eO (k+1) aG =
 eO.l0 k k aG aG ((List.length aG:Nat):Int) 0:=by kernel_rfl
theorem eO.aj (k m:Nat) (aG pO oP dn):eO.l0 k (m+1) aG pO oP dn =
 if (dn:Int)<oP then
 if 0<=dn then
 if dn<((List.length pO:Nat):Int) then
 if Ne (α:=Int) (rd aY pO dn).1 dn then
 some false
 else (aK k (rd aY pO dn).2.1 1 500).bind fun r1=>
 if ¬ (r1=true) then
 some false
 else if (0:Int)<dn then
 if 0<=(IntKind.wrap .i64 (dn - 1)) then
 if (IntKind.wrap .i64 (dn - 1))<((List.length aG:Nat):Int) then
 if LE.le (α:=Int) (rd aY pO dn).2.1 (rd aY aG (IntKind.wrap .i64 (dn - 1))).2.1 then
 some false
 else eO.l0 k m aG pO oP (IntKind.wrap .i64 (dn+1)) else none else none
 else eO.l0 k m aG pO oP (IntKind.wrap .i64 (dn+1)) else none else none
 else some (decide ((((List.length aG:Nat):Int):Int)<=26)):=by kernel_rfl
theorem nQ (k:Nat) (aG dD bU):dV (k+1) aG dD bU =
 (aR k aG).bind fun r1=>
 if ¬ (r1=true) then
 some false
 else (aN k dD).bind fun r2=>
 if ¬ (r2=true) then
 some false
 else if (4:Int)<((List.length bU:Nat):Int) then
 some false
 else dV.l0 k k aG bU bU ((List.length bU:Nat):Int) 0 dD:=by kernel_rfl
theorem dV.aj (k m:Nat) (aG bU RX WA lJ dK):dV.l0 k (m+1) aG bU RX WA lJ dK =
 if (lJ:Int)<WA then
 if 0<=lJ then
 if lJ<((List.length RX:Nat):Int) then
 if 0<=lJ then
 if lJ<=((List.length bU:Nat):Int) then
 (cB k (List.take ((Int.toNat lJ) - (Int.toNat 0)) (List.drop (Int.toNat 0) bU)) (rd (.int .i64) RX lJ)).bind fun r3=>
 if r3=true then
 some false
 else (iL k aG (rd (.int .i64) RX lJ) dK lJ).bind fun r4=>
 if ¬ (r4=true) then
 some false
 else dV.l0 k m aG bU RX WA (IntKind.wrap .i64 (lJ+1)) dK else none else none else none else none
 else some true:=by kernel_rfl
theorem nk (k:Nat) (Eb dX bZ):aK (k+1) Eb dX bZ =
 if (dX:Int)<=Eb then
 some (decide ((Eb:Int)<=bZ))
 else some false:=by kernel_rfl
theorem Cg (k:Nat) (aG):jO (k+1) aG =
 (aN k aG).bind fun r1=>
 if r1=true then
 jO.l0 k k 0 aG ((List.length aG:Nat):Int) 0
 else some 0:=by kernel_rfl
theorem jO.aj (k m:Nat) (Qc eH jl iZ):jO.l0 k (m+1) Qc eH jl iZ =
 if (iZ:Int)<jl then
 if 0<=iZ then
 if iZ<((List.length eH:Nat):Int) then
 jO.l0 k m (max Qc (IntKind.wrap .i64 ((rd aP eH iZ).1+(rd aP eH iZ).2.1)):Int) eH jl (IntKind.wrap .i64 (iZ+1)) else none else none
 else some Qc:=by kernel_rfl
theorem yB (k:Nat) (aG bN wK):eF (k+1) aG bN wK =
 (aN k aG).bind fun r1=>
 if ¬ (r1=true) then
 some ([],(false,()))
 else if (2096:Int)<wK then
 some ([],(false,()))
 else (kg k aG bN).bind fun r2=>
 eF.l0 k k wK 0 ((List.length r2:Nat):Int) 0 [] r2:=by kernel_rfl
theorem eF.aj (k m:Nat) (wK Aw lJ lK s0 s1):eF.l0 k (m+1) wK Aw lJ lK s0 s1 =
 if (lK:Int)<lJ then
 if 0<=lK then
 if lK<((List.length s1:Nat):Int) then
 if LT.lt (α:=Int) (rd aP s1 lK).1 Aw then
 some ([],(false,()))
 else if LT.lt (α:=Int) Aw (rd aP s1 lK).1 then
 if (List.length s0+List.length ([(Aw,(IntKind.wrap .i64 ((rd aP s1 lK).1 - Aw),(0,())))]:(List gY)))*24<=211106232532992 then
 if (List.length (s0++([(Aw,(IntKind.wrap .i64 ((rd aP s1 lK).1 - Aw),(0,())))]:(List gY)))+List.length ([((rd aP s1 lK).1,((rd aP s1 lK).2.1,((rd aP s1 lK).2.2.1,())))]:(List gY)))*24<=211106232532992 then
 eF.l0 k m wK (IntKind.wrap .i64 ((rd aP s1 lK).1+(rd aP s1 lK).2.1)) lJ (IntKind.wrap .i64 (lK+1)) ((s0++([(Aw,(IntKind.wrap .i64 ((rd aP s1 lK).1 - Aw),(0,())))]:(List gY)))++([((rd aP s1 lK).1,((rd aP s1 lK).2.1,((rd aP s1 lK).2.2.1,())))]:(List gY))) s1 else none else none
 else if (List.length s0+List.length ([((rd aP s1 lK).1,((rd aP s1 lK).2.1,((rd aP s1 lK).2.2.1,())))]:(List gY)))*24<=211106232532992 then
 eF.l0 k m wK (IntKind.wrap .i64 ((rd aP s1 lK).1+(rd aP s1 lK).2.1)) lJ (IntKind.wrap .i64 (lK+1)) (s0++([((rd aP s1 lK).1,((rd aP s1 lK).2.1,((rd aP s1 lK).2.2.1,())))]:(List gY))) s1 else none else none else none
 else if (wK:Int)<Aw then
 some ([],(false,()))
 else if (Aw:Int)<wK then
 if (List.length s0+List.length ([(Aw,(IntKind.wrap .i64 (wK - Aw),(0,())))]:(List gY)))*24<=211106232532992 then
 some ((s0++([(Aw,(IntKind.wrap .i64 (wK - Aw),(0,())))]:(List gY))),(true,())) else none
 else some (s0,(true,())):=by kernel_rfl
theorem Es (k:Nat) (Bp):fU (k+1) Bp =
 if (4:Int)<((List.length Bp:Nat):Int) then
 some ([],(false,()))
 else fU.l0 k k Bp ((List.length Bp:Nat):Int) 0 []:=by kernel_rfl
theorem fU.aj (k m:Nat) (kQ gH Bz s0):fU.l0 k (m+1) kQ gH Bz s0 =
 if (Bz:Int)<gH then
 if 0<=Bz then
 if Bz<((List.length kQ:Nat):Int) then
 (eZ k (rd (.list iB) kQ Bz)).bind fun r1=>
 if ¬ (r1=true) then
 some ([],(false,()))
 else (fZ k (rd (.list iB) kQ Bz) (IntKind.wrap .i64 (Bz+1))).bind fun r2=>
 if (List.length s0+List.length r2)*32<=211106232532992 then
 fU.l0 k m kQ gH (IntKind.wrap .i64 (Bz+1)) (s0++r2) else none else none else none
 else (jw k s0).bind fun r3=>
 (aN k r3.2).bind fun r4=>
 if ¬ (r4=true) then
 some ([],(false,()))
 else some (r3.2,(true,())):=by kernel_rfl
theorem NW (k:Nat) (aG iJ):Fq (k+1) aG iJ =
 (bD k aG).bind fun r1=>
 (aO k r1 iJ).bind fun r2=>
 some r2:=by kernel_rfl
theorem oF (k:Nat) (oQ pY):bM (k+1) oQ pY =
 if (((List.length oQ:Nat):Int):Int) ≠ ((List.length pY:Nat):Int) then
 some false
 else bM.l0 k k oQ pY ((List.length oQ:Nat):Int) 0:=by kernel_rfl
theorem bM.aj (k m:Nat) (oQ pY kQ gH):bM.l0 k (m+1) oQ pY kQ gH =
 if (gH:Int)<kQ then
 if 0<=gH then
 if gH<((List.length oQ:Nat):Int) then
 if 0<=gH then
 if gH<((List.length pY:Nat):Int) then
 if ¬ ((((rd aP oQ gH).1:Int)=(rd aP pY gH).1)/\((((rd aP oQ gH).2.1:Int)=(rd aP pY gH).2.1)/\((((rd aP oQ gH).2.2.1:Int)=(rd aP pY gH).2.2.1)/\(((rd aP oQ gH).2.2.2.1:Int)=(rd aP pY gH).2.2.2.1)))) then
 some false
 else bM.l0 k m oQ pY kQ (IntKind.wrap .i64 (gH+1)) else none else none else none else none
 else some true:=by kernel_rfl
theorem uU (k:Nat) (aG bN):kg (k+1) aG bN =
 (bD k aG).bind fun r1=>
 (au k r1 bN).bind fun r2=>
 some r2:=by kernel_rfl
theorem Et (k:Nat) (Eb Oq):iK (k+1) Eb Oq =
 (aK k Eb (-1000000000000000) 1000000000000000).bind fun r1=>
 if ¬ (r1=true) then
 some ((0,(0,())),(false,()))
 else (aK k Oq (-1000000000000000) 1000000000000000).bind fun r2=>
 if ¬ (r2=true) then
 some ((0,(0,())),(false,()))
 else (uK k Eb Oq).bind fun r3=>
 some (r3.1,(decide (r3.2.1=true),())):=by kernel_rfl
theorem tL (k:Nat) (a_0 b_1):gU (k+1) a_0 b_1 =
 (jd k a_0).bind fun r1=>
 if ¬ (r1=true) then
 some ((0,(0,())),(false,()))
 else (jd k b_1).bind fun r2=>
 if ¬ (r2=true) then
 some ((0,(0,())),(false,()))
 else (uK k (IntKind.wrap .i64 ((IntKind.wrap .i64 (a_0.1*b_1.2.1))+(IntKind.wrap .i64 (b_1.1*a_0.2.1)))) (IntKind.wrap .i64 (a_0.2.1*b_1.2.1))).bind fun r3=>
 some (r3.1,(decide (r3.2.1=true),())):=by kernel_rfl
theorem vg (k:Nat) (YR):jd (k+1) YR =
 (aK k YR.2.1 1 1000000).bind fun r1=>
 if r1=true then
 (aK k YR.1 (-1000000000) 1000000000).bind fun r2=>
 if r2=true then
 (gF k (max YR.1 (IntKind.wrap .i64 (-YR.1)):Int) YR.2.1).bind fun r3=>
 some (decide ((r3:Int)=1))
 else some false
 else some false:=by kernel_rfl
theorem nR (k:Nat) (a_0 b_1):rY (k+1) a_0 b_1 =
 (jd k a_0).bind fun r1=>
 if r1=true then
 (jd k b_1).bind fun r2=>
 if r2=true then
 some (decide (((IntKind.wrap .i64 (a_0.1*b_1.2.1)):Int)<(IntKind.wrap .i64 (b_1.1*a_0.2.1))))
 else some false
 else some false:=by kernel_rfl
theorem tN (k:Nat) (a_0 b_1):qd (k+1) a_0 b_1 =
 (jd k a_0).bind fun r1=>
 if ¬ (r1=true) then
 some ((0,(0,())),(false,()))
 else (jd k b_1).bind fun r2=>
 if ¬ (r2=true) then
 some ((0,(0,())),(false,()))
 else (uK k (IntKind.wrap .i64 (a_0.1*b_1.1)) (IntKind.wrap .i64 (a_0.2.1*b_1.2.1))).bind fun r3=>
 some (r3.1,(decide (r3.2.1=true),())):=by kernel_rfl
theorem sH (k:Nat) (fV):dO (k+1) fV =
 if (40:Int)<((List.length fV:Nat):Int) then
 some (([],(0,())),(false,()))
 else dO.l0 k k (IntKind.wrap .i64 (((List.length fV:Nat):Int)+1)) 0 0 0 []:=by kernel_rfl
theorem dO.aj (k m:Nat) (Bz xO dF iX s2):dO.l0 k (m+1) Bz xO dF iX s2 =
 if (xO:Int)<Bz then
 if (List.length s2+List.length ([xO]:(List Int)))*8<=211106232532992 then
 dO.l0 k m Bz (IntKind.wrap .i64 (xO+1)) dF iX (s2++([xO]:(List Int))) else none
 else some ((s2,(iX,())),(true,())):=by kernel_rfl
theorem oG (k:Nat) (fV GJ uj):eP (k+1) fV GJ uj =
 (oz k GJ.1).bind fun r1=>
 (bQ k fV GJ).bind fun r2=>
 if ¬ (r2=true) then
 some (r1,GJ.2)
 else if (500:Int)<GJ.2.1 then
 some (r1,GJ.2)
 else if 0<=0 then
 if 0<((List.length r1:Nat):Int) then
 if 0<=0 then
 if 0<((List.length r1:Nat):Int) then
 eP.l0 k k uj fV ((List.length fV:Nat):Int) 0 GJ.1 GJ.2.1 0 (IntKind.wrap .i64 (GJ.2.1+1)) (List.set r1 (Int.toNat 0) (IntKind.wrap .i64 ((rd (.int .i64) r1 0)+1))) else none else none else none else none:=by kernel_rfl
theorem eP.aj (k m:Nat) (uj Fh JO rT dK dF iX JN s3):eP.l0 k (m+1) uj Fh JO rT dK dF iX JN s3 =
 if (rT:Int)<JO then
 if 0<=rT then
 if rT<((List.length Fh:Nat):Int) then
 if 0<=(IntKind.wrap .i64 (rT+1)) then
 if (IntKind.wrap .i64 (rT+1))<((List.length dK:Nat):Int) then
 if 0<=rT then
 if rT<((List.length s3:Nat):Int) then
 if 0<=rT then
 if rT<((List.length dK:Nat):Int) then
 (Az k (rd (.int .i64) Fh rT) uj).bind fun r3=>
 if 0<=(IntKind.wrap .i64 (rT+1)) then
 if (IntKind.wrap .i64 (rT+1))<((List.length s3:Nat):Int) then
 eP.l0 k m uj Fh JO (IntKind.wrap .i64 (rT+1)) dK dF iX JN (List.set s3 (Int.toNat (IntKind.wrap .i64 (rT+1))) (min (min (IntKind.wrap .i64 ((rd (.int .i64) dK (IntKind.wrap .i64 (rT+1)))+1)) (IntKind.wrap .i64 ((rd (.int .i64) s3 rT)+1)):Int) (IntKind.wrap .i64 ((rd (.int .i64) dK rT)+r3)):Int)) else none else none else none else none else none else none else none else none else none else none
 else some (s3,(JN,())):=by kernel_rfl
theorem oW (k:Nat) (JQ GJ Ed):xP (k+1) JQ GJ Ed =
 (bX k GJ Ed).bind fun r1=>
 if (r1.1:Int)<1 then
 some (-1)
 else (gD k JQ).bind fun r2=>
 if ¬ (r2=true) then
 some (-1)
 else (bQ k JQ.1 GJ).bind fun r3=>
 if ¬ (r3=true) then
 some (-1)
 else if 0<=(IntKind.wrap .i64 (r1.1 - 1)) then
 if (IntKind.wrap .i64 (r1.1 - 1))<((List.length JQ.2.1:Nat):Int) then
 some (rd (.int .i64) JQ.2.1 (IntKind.wrap .i64 (r1.1 - 1))) else none else none:=by kernel_rfl
theorem xA (k:Nat) (aG fT sU oU):dz (k+1) aG fT sU oU =
 (aN k aG).bind fun r1=>
 if r1=true then
 dz.l0 k k fT sU oU aG ((List.length aG:Nat):Int) 0 []
 else some []:=by kernel_rfl
theorem dz.aj (k m:Nat) (fT sU oU xO Qd CU s0):dz.l0 k (m+1) fT sU oU xO Qd CU s0 =
 if (CU:Int)<Qd then
 if 0<=CU then
 if CU<((List.length xO:Nat):Int) then
 if Ne (α:=Int) (rd aP xO CU).2.2.2.1 fT then
 if LT.lt (α:=Int) sU (rd aP xO CU).1 then
 if LE.le (α:=Int) (rd aP xO CU).1 oU then
 if (List.length s0+List.length ([(rd aP xO CU)]:(List aC)))*32<=211106232532992 then
 dz.l0 k m fT sU oU xO Qd (IntKind.wrap .i64 (CU+1)) (s0++([(rd aP xO CU)]:(List aC))) else none
 else dz.l0 k m fT sU oU xO Qd (IntKind.wrap .i64 (CU+1)) s0
 else dz.l0 k m fT sU oU xO Qd (IntKind.wrap .i64 (CU+1)) s0
 else dz.l0 k m fT sU oU xO Qd (IntKind.wrap .i64 (CU+1)) s0 else none else none
 else some s0:=by kernel_rfl
theorem Lj (k:Nat) (JQ):gD (k+1) JQ =
 gD.l0 k k JQ.2.1 ((List.length JQ.2.1:Nat):Int) 0 JQ.1 JQ.2.1:=by kernel_rfl
theorem gD.aj (k m:Nat) (oP dn eH dK dF):gD.l0 k (m+1) oP dn eH dK dF =
 if (eH:Int)<dn then
 if 0<=eH then
 if eH<((List.length oP:Nat):Int) then
 (aK k (rd (.int .i64) oP eH) 0 2000).bind fun r1=>
 if ¬ (r1=true) then
 some false
 else if (0:Int)<eH then
 if 0<=(IntKind.wrap .i64 (eH - 1)) then
 if (IntKind.wrap .i64 (eH - 1))<((List.length dF:Nat):Int) then
 if LT.lt (α:=Int) (rd (.int .i64) oP eH) (rd (.int .i64) dF (IntKind.wrap .i64 (eH - 1))) then
 some false
 else gD.l0 k m oP dn (IntKind.wrap .i64 (eH+1)) dK dF else none else none
 else gD.l0 k m oP dn (IntKind.wrap .i64 (eH+1)) dK dF else none else none
 else if (((List.length dK:Nat):Int):Int)<=40 then
 some (decide ((((List.length dF:Nat):Int):Int)=((List.length dK:Nat):Int)))
 else some false:=by kernel_rfl
theorem GQ (k:Nat) (lV):zk (k+1) lV =
 (bK k lV 4).bind fun r1=>
 (CV k r1.2 ([4,4,4,8,2])).bind fun r2=>
 some ((IntKind.wrap .i64 (2+r1.1),(r2.1,())),r2.2):=by kernel_rfl
theorem Eu (k:Nat) (lV):fI (k+1) lV =
 fI.l0 k k 1 lV.1 lV.2.1 lV.2.2.1 []:=by kernel_rfl
theorem fI.aj (k m:Nat) (xq dK dF iw s1):fI.l0 k (m+1) xq dK dF iw s1 =
 (bK k (dK,(dF,(iw,()))) 4).bind fun r1=>
 if (xq:Int)<=(IntKind.wrap .i64 (2+r1.1)) then
 (bK k r1.2 18).bind fun r2=>
 (bK k r2.2 12).bind fun r3=>
 if (List.length s1+List.length ([(xq,(IntKind.wrap .i64 (40+r2.1),(IntKind.wrap .i64 (76+r3.1),([1,2,3],()))))]:(List bT)))*48<=211106232532992 then
 fI.l0 k m (IntKind.wrap .i64 (xq+1)) r3.2.1 r3.2.2.1 r3.2.2.2.1 (s1++([(xq,(IntKind.wrap .i64 (40+r2.1),(IntKind.wrap .i64 (76+r3.1),([1,2,3],()))))]:(List bT))) else none
 else some (s1,r1.2):=by kernel_rfl
theorem AB (k:Nat) (KO Bq):rZ (k+1) KO Bq =
 (zm k ([],(KO,([(0,(100,()))],(Bq,([],([],([],(1,(0,())))))))))).bind fun r1=>
 (tH k r1).bind fun r2=>
 if ¬ (r2=true) then
 some (([],((0,(0,())),([],([],([],([],([],(0,(0,()))))))))),(false,()))
 else some (r1,(true,())):=by kernel_rfl
theorem FH (k:Nat) (lV):gV (k+1) lV =
 (gP k lV 1 9).bind fun r1=>
 (gP k r1.2 2 9).bind fun r2=>
 gV.l0 k k 0 r2.2.1 r2.2.2.1 r2.2.2.2.1 r1.1 r2.1:=by kernel_rfl
theorem gV.aj (k m:Nat) (mo dK dF iw s1 s2):gV.l0 k (m+1) mo dK dF iw s1 s2 =
 if (mo:Int)<((List.length s2:Nat):Int) then
 if 0<=mo then
 if mo<((List.length s2:Nat):Int) then
 (qg k s1 (rd aP s2 mo)).bind fun r3=>
 gV.l0 k m (IntKind.wrap .i64 (mo+1)) dK dF iw r3.1 s2 else none else none
 else some (s1,(dK,(dF,(iw,())))):=by kernel_rfl
theorem FI (k:Nat) (aG):gW (k+1) aG =
 gW.l0 k k aG 0 []:=by kernel_rfl
theorem gW.aj (k m:Nat) (aG xq s0):gW.l0 k (m+1) aG xq s0 =
 if (xq:Int)<((List.length aG:Nat):Int) then
 if 0<=xq then
 if xq<((List.length aG:Nat):Int) then
 if (List.length s0+List.length ([(1,(0,((rd aP aG xq),((0,(0,())),((0,(0,(0,([],())))),((0,(0,(0,(0,(0,()))))),()))))))]:(List oO)))*152<=211106232532992 then
 gW.l0 k m aG (IntKind.wrap .i64 (xq+1)) (s0++([(1,(0,((rd aP aG xq),((0,(0,())),((0,(0,(0,([],())))),((0,(0,(0,(0,(0,()))))),()))))))]:(List oO))) else none else none else none
 else some s0:=by kernel_rfl
theorem vk (k:Nat) (lV Dn):bK (k+1) lV Dn =
 if (Dn:Int)<=0 then
 some (0,lV)
 else if (Dn:Int)<=256 then
 (qY k lV).bind fun r1=>
 if Dn=(0:Int) then
 none
 else some ((Int.tmod r1.1 Dn),r1.2)
 else (qY k lV).bind fun r2=>
 (qY k r2.2).bind fun r3=>
 (qY k r3.2).bind fun r4=>
 if Dn=(0:Int) then
 none
 else some ((Int.tmod (IntKind.wrap .i64 ((IntKind.wrap .i64 ((IntKind.wrap .i64 (r2.1*65536))+(IntKind.wrap .i64 (r3.1*256))))+r4.1)) Dn),r4.2):=by kernel_rfl
theorem mH (k:Nat) (lV):Ay (k+1) lV =
 (bK k lV 8).bind fun r1=>
 (bK k r1.2 4).bind fun r2=>
 if ((IntKind.wrap .i64 (1+r1.1)):Int)=1 then
 if ((IntKind.wrap .i64 (1+r1.1)):Int)=1 then
 (vQ k r2.2).bind fun r3=>
 some ((IntKind.wrap .i64 (1+r1.1),(IntKind.wrap .i64 (1+r2.1),(r3.1,((0,(0,())),((0,(0,(0,([],())))),((0,(0,(0,(0,(0,()))))),())))))),r3.2)
 else if ((IntKind.wrap .i64 (1+r1.1)):Int)=3 then
 (bK k r2.2 9).bind fun r4=>
 (bK k r4.2 90).bind fun r5=>
 some ((IntKind.wrap .i64 (1+r1.1),(IntKind.wrap .i64 (1+r2.1),((0,(0,(0,(0,())))),((IntKind.wrap .i64 (6*r4.1),(IntKind.wrap .i64 (60+r5.1),())),((0,(0,(0,([],())))),((0,(0,(0,(0,(0,()))))),())))))),r5.2)
 else if ((IntKind.wrap .i64 (1+r1.1)):Int)=6 then
 (bK k r2.2 9).bind fun r6=>
 some ((IntKind.wrap .i64 (1+r1.1),(IntKind.wrap .i64 (1+r2.1),((0,(0,(0,(0,())))),((0,(0,())),((IntKind.wrap .i64 (1+r6.1),(40,(90,([1,2],())))),((0,(0,(0,(0,(0,()))))),())))))),r6.2)
 else if ((IntKind.wrap .i64 (1+r1.1)):Int)=7 then
 (vR k r2.2).bind fun r7=>
 some ((IntKind.wrap .i64 (1+r1.1),(IntKind.wrap .i64 (1+r2.1),((0,(0,(0,(0,())))),((0,(0,())),((0,(0,(0,([],())))),(r7.1,())))))),r7.2)
 else some ((IntKind.wrap .i64 (1+r1.1),(IntKind.wrap .i64 (1+r2.1),((0,(0,(0,(0,())))),((0,(0,())),((0,(0,(0,([],())))),((0,(0,(0,(0,(0,()))))),())))))),r2.2)
 else if ((IntKind.wrap .i64 (1+r1.1)):Int)=2 then
 (vQ k r2.2).bind fun r8=>
 some ((IntKind.wrap .i64 (1+r1.1),(IntKind.wrap .i64 (1+r2.1),(r8.1,((0,(0,())),((0,(0,(0,([],())))),((0,(0,(0,(0,(0,()))))),())))))),r8.2)
 else if ((IntKind.wrap .i64 (1+r1.1)):Int)=3 then
 (bK k r2.2 9).bind fun r9=>
 (bK k r9.2 90).bind fun Yj=>
 some ((IntKind.wrap .i64 (1+r1.1),(IntKind.wrap .i64 (1+r2.1),((0,(0,(0,(0,())))),((IntKind.wrap .i64 (6*r9.1),(IntKind.wrap .i64 (60+Yj.1),())),((0,(0,(0,([],())))),((0,(0,(0,(0,(0,()))))),())))))),Yj.2)
 else if ((IntKind.wrap .i64 (1+r1.1)):Int)=6 then
 (bK k r2.2 9).bind fun YT=>
 some ((IntKind.wrap .i64 (1+r1.1),(IntKind.wrap .i64 (1+r2.1),((0,(0,(0,(0,())))),((0,(0,())),((IntKind.wrap .i64 (1+YT.1),(40,(90,([1,2],())))),((0,(0,(0,(0,(0,()))))),())))))),YT.2)
 else if ((IntKind.wrap .i64 (1+r1.1)):Int)=7 then
 (vR k r2.2).bind fun ZQ=>
 some ((IntKind.wrap .i64 (1+r1.1),(IntKind.wrap .i64 (1+r2.1),((0,(0,(0,(0,())))),((0,(0,())),((0,(0,(0,([],())))),(ZQ.1,())))))),ZQ.2)
 else some ((IntKind.wrap .i64 (1+r1.1),(IntKind.wrap .i64 (1+r2.1),((0,(0,(0,(0,())))),((0,(0,())),((0,(0,(0,([],())))),((0,(0,(0,(0,(0,()))))),())))))),r2.2):=by kernel_rfl
theorem Da (k:Nat) (bI eG):uY (k+1) bI eG =
 (aA k bI).bind fun r1=>
 (kG k r1 eG).bind fun r2=>
 if ¬ (r2.1=true) then
 (aA k bI).bind fun r3=>
 some (r3,(false,()))
 else (cu k r2.2).bind fun r4=>
 if ¬ (r4=true) then
 (aA k bI).bind fun r5=>
 some (r5,(false,()))
 else some (r2.2,(true,())):=by kernel_rfl
theorem BA (k:Nat) (bI eG):sV (k+1) bI eG =
 (aA k bI).bind fun r1=>
 (mE k r1 eG).bind fun r2=>
 if ¬ (r2.1=true) then
 (aA k bI).bind fun r3=>
 some (r3,(false,()))
 else (cu k r2.2).bind fun r4=>
 if ¬ (r4=true) then
 (aA k bI).bind fun r5=>
 some (r5,(false,()))
 else some (r2.2,(true,())):=by kernel_rfl
theorem BD (k:Nat) (bI eG):sW (k+1) bI eG =
 (aA k bI).bind fun r1=>
 (mF k r1 eG).bind fun r2=>
 if ¬ (r2.1=true) then
 (aA k bI).bind fun r3=>
 some (r3,(false,()))
 else (cu k r2.2).bind fun r4=>
 if ¬ (r4=true) then
 (aA k bI).bind fun r5=>
 some (r5,(false,()))
 else some (r2.2,(true,())):=by kernel_rfl
theorem BF (k:Nat) (bI eG):sZ (k+1) bI eG =
 (aA k bI).bind fun r1=>
 (ny k r1 eG).bind fun r2=>
 if ¬ (r2.1=true) then
 (aA k bI).bind fun r3=>
 some (r3,(false,()))
 else (cu k r2.2).bind fun r4=>
 if ¬ (r4=true) then
 (aA k bI).bind fun r5=>
 some (r5,(false,()))
 else some (r2.2,(true,())):=by kernel_rfl
theorem BG (k:Nat) (bI eG):tq (k+1) bI eG =
 (aA k bI).bind fun r1=>
 (kH k r1 eG).bind fun r2=>
 if ¬ (r2.1=true) then
 (aA k bI).bind fun r3=>
 some (r3,(false,()))
 else (cu k r2.2).bind fun r4=>
 if ¬ (r4=true) then
 (aA k bI).bind fun r5=>
 some (r5,(false,()))
 else some (r2.2,(true,())):=by kernel_rfl
theorem BH (k:Nat) (bI eG):tu (k+1) bI eG =
 (aA k bI).bind fun r1=>
 (dx k r1 eG).bind fun r2=>
 if ¬ (r2.1=true) then
 (aA k bI).bind fun r3=>
 some (r3,(false,()))
 else (cu k r2.2).bind fun r4=>
 if ¬ (r4=true) then
 (aA k bI).bind fun r5=>
 some (r5,(false,()))
 else some (r2.2,(true,())):=by kernel_rfl
theorem BI (k:Nat) (bI eG Ee Ef Yg):tC (k+1) bI eG Ee Ef Yg =
 (aA k bI).bind fun r1=>
 (nA k r1 eG Ee Ef Yg).bind fun r2=>
 if ¬ (r2.1=true) then
 (aA k bI).bind fun r3=>
 some (r3,(false,()))
 else (cu k r2.2).bind fun r4=>
 if ¬ (r4=true) then
 (aA k bI).bind fun r5=>
 some (r5,(false,()))
 else some (r2.2,(true,())):=by kernel_rfl
theorem BJ (k:Nat) (bI eG):tF (k+1) bI eG =
 (aA k bI).bind fun r1=>
 (nC k r1 eG).bind fun r2=>
 if ¬ (r2.1=true) then
 (aA k bI).bind fun r3=>
 some (r3,(false,()))
 else (cu k r2.2).bind fun r4=>
 if ¬ (r4=true) then
 (aA k bI).bind fun r5=>
 some (r5,(false,()))
 else some (r2.2,(true,())):=by kernel_rfl
theorem BK (k:Nat) (p_0):oV (k+1) p_0 =
 (oz k p_0.2.2.2.1).bind fun r1=>
 some (p_0.1,(p_0.2.1,(p_0.2.2.1,(r1,())))):=by kernel_rfl
theorem lH (k:Nat) (aG):bD (k+1) aG =
 if (List.length ([]:(List aC))+List.length aG)*32<=211106232532992 then
 some (([]:(List aC))++aG) else none:=by kernel_rfl
theorem xR (k:Nat) (aG):nM (k+1) aG =
 if (List.length ([]:(List aZ))+List.length aG)*16<=211106232532992 then
 some (([]:(List aZ))++aG) else none:=by kernel_rfl
theorem Ew (k:Nat) (aG):oz (k+1) aG =
 if (List.length ([]:(List Int))+List.length aG)*8<=211106232532992 then
 some (([]:(List Int))++aG) else none:=by kernel_rfl
theorem yC (k:Nat) (aG):iV (k+1) aG =
 if (List.length ([]:(List eX))+List.length aG)*40<=211106232532992 then
 some (([]:(List eX))++aG) else none:=by kernel_rfl
theorem wT (k:Nat) (aG):mW (k+1) aG =
 if (List.length ([]:(List aZ))+List.length aG)*16<=211106232532992 then
 some (([]:(List aZ))++aG) else none:=by kernel_rfl
theorem kK (k:Nat) (a_0 b_1):fE (k+1) a_0 b_1 =
 (cmp_Compare_int k a_0.1 b_1.1).bind fun r1=>
 (cmp_Compare_int k a_0.2.2.2.1 b_1.2.2.2.1).bind fun r2=>
 (cmp_Compare_int k a_0.2.2.1 b_1.2.2.1).bind fun r3=>
 (aS k ([r1,r2,r3])).bind fun r4=>
 some r4:=by kernel_rfl
theorem Ey (k:Nat) (a_0 b_1):oC (k+1) a_0 b_1 =
 (cmp_Compare_int k a_0.1 b_1.1).bind fun r1=>
 (cmp_Compare_int k a_0.2.1 b_1.2.1).bind fun r2=>
 (aS k ([r1,r2])).bind fun r3=>
 some r3:=by kernel_rfl
theorem qH (k:Nat) (aG):aR (k+1) aG =
 aR.l0 k k aG aG ((List.length aG:Nat):Int) 0 []:=by kernel_rfl
theorem aR.aj (k m:Nat) (aG dn eH jl s0):aR.l0 k (m+1) aG dn eH jl s0 =
 if (jl:Int)<eH then
 if 0<=jl then
 if jl<((List.length dn:Nat):Int) then
 (aK k (rd dL dn jl).2.1 21 (rd dL dn jl).2.2.1).bind fun r1=>
 if ¬ (r1=true) then
 some false
 else if LT.lt (α:=Int) 108 (rd dL dn jl).2.2.1 then
 some false
 else (aW k (rd dL dn jl).2.2.2.1 1 4).bind fun r2=>
 if ¬ (r2=true) then
 some false
 else if (List.length s0+List.length ([(rd dL dn jl).1]:(List Int)))*8<=211106232532992 then
 aR.l0 k m aG dn eH (IntKind.wrap .i64 (jl+1)) (s0++([(rd dL dn jl).1]:(List Int))) else none else none else none
 else if (((List.length aG:Nat):Int):Int)<=8 then
 (aW k s0 1 99).bind fun r3=>
 some (decide (r3=true))
 else some false:=by kernel_rfl
theorem jL (k:Nat) (s_0 v_1):cB (k+1) s_0 v_1 =
 (aD k s_0 v_1).bind fun r1=>
 some (decide ((0:Int)<=r1)):=by kernel_rfl
theorem oH (k:Nat) (s_0 eG Ee Ef):iL (k+1) s_0 eG Ee Ef =
 (aT k s_0 eG Ee Ef).bind fun r1=>
 some (decide ((0:Int)<=r1)):=by kernel_rfl
theorem JW (k:Nat) (p_0):eZ (k+1) p_0 =
 eZ.l0 k k p_0 0 p_0 ((List.length p_0:Nat):Int) 0:=by kernel_rfl
theorem eZ.aj (k m:Nat) (p_0 Lg dn eH jl):eZ.l0 k (m+1) p_0 Lg dn eH jl =
 if (jl:Int)<eH then
 if 0<=jl then
 if jl<((List.length dn:Nat):Int) then
 if Ne (α:=Int) (rd iB dn jl).1 Lg then
 some false
 else (aK k (rd iB dn jl).2.1 1 3000).bind fun r1=>
 if ¬ (r1=true) then
 some false
 else if ¬ (Eq (α:=Int) (rd iB dn jl).2.2.1 0) then
 (aK k (rd iB dn jl).2.2.1 21 108).bind fun r2=>
 if ¬ (r2=true) then
 some false
 else if LT.lt (α:=Int) 96 (rd iB dn jl).2.1 then
 some false
 else if Eq (α:=Int) (rd iB dn jl).2.2.1 0 then
 if (0:Int)<jl then
 if 0<=(IntKind.wrap .i64 (jl - 1)) then
 if (IntKind.wrap .i64 (jl - 1))<((List.length p_0:Nat):Int) then
 if Eq (α:=Int) (rd iB p_0 (IntKind.wrap .i64 (jl - 1))).2.2.1 0 then
 some false
 else eZ.l0 k m p_0 (IntKind.wrap .i64 (Lg+(rd iB dn jl).2.1)) dn eH (IntKind.wrap .i64 (jl+1)) else none else none
 else eZ.l0 k m p_0 (IntKind.wrap .i64 (Lg+(rd iB dn jl).2.1)) dn eH (IntKind.wrap .i64 (jl+1))
 else eZ.l0 k m p_0 (IntKind.wrap .i64 (Lg+(rd iB dn jl).2.1)) dn eH (IntKind.wrap .i64 (jl+1))
 else if Eq (α:=Int) (rd iB dn jl).2.2.1 0 then
 if (0:Int)<jl then
 if 0<=(IntKind.wrap .i64 (jl - 1)) then
 if (IntKind.wrap .i64 (jl - 1))<((List.length p_0:Nat):Int) then
 if Eq (α:=Int) (rd iB p_0 (IntKind.wrap .i64 (jl - 1))).2.2.1 0 then
 some false
 else eZ.l0 k m p_0 (IntKind.wrap .i64 (Lg+(rd iB dn jl).2.1)) dn eH (IntKind.wrap .i64 (jl+1)) else none else none
 else eZ.l0 k m p_0 (IntKind.wrap .i64 (Lg+(rd iB dn jl).2.1)) dn eH (IntKind.wrap .i64 (jl+1))
 else eZ.l0 k m p_0 (IntKind.wrap .i64 (Lg+(rd iB dn jl).2.1)) dn eH (IntKind.wrap .i64 (jl+1)) else none else none
 else some true:=by kernel_rfl
theorem FJ (k:Nat) (p_0 bN):fZ (k+1) p_0 bN =
 (eZ k p_0).bind fun r1=>
 if r1=true then
 fZ.l0 k k bN p_0 ((List.length p_0:Nat):Int) 0 []
 else some []:=by kernel_rfl
theorem fZ.aj (k m:Nat) (bN fQ kQ gH s0):fZ.l0 k (m+1) bN fQ kQ gH s0 =
 if (gH:Int)<kQ then
 if 0<=gH then
 if gH<((List.length fQ:Nat):Int) then
 if Ne (α:=Int) (rd iB fQ gH).2.2.1 0 then
 if (List.length s0+List.length ([((rd iB fQ gH).1,((rd iB fQ gH).2.1,((rd iB fQ gH).2.2.1,(bN,()))))]:(List aC)))*32<=211106232532992 then
 fZ.l0 k m bN fQ kQ (IntKind.wrap .i64 (gH+1)) (s0++([((rd iB fQ gH).1,((rd iB fQ gH).2.1,((rd iB fQ gH).2.2.1,(bN,()))))]:(List aC))) else none
 else fZ.l0 k m bN fQ kQ (IntKind.wrap .i64 (gH+1)) s0 else none else none
 else some s0:=by kernel_rfl
theorem rD (k:Nat) (x_0:(List aC)):jw (k+1) x_0=(qU 164 aP uG) (.pair .unit (.list aP)) [.lend (.list aP) x_0,.nL 164 []]:=by kernel_rfl
theorem qh (k:Nat) (s_0 eG):aO (k+1) s_0 eG =
 (aQ k s_0 eG).bind fun r1=>
 if (r1:Int)=(-1) then
 some s_0
 else aO.l0 k k eG r1 (IntKind.wrap .i64 (r1+1)) s_0:=by kernel_rfl
theorem aO.aj (k m:Nat) (jK mo Ca s0):aO.l0 k (m+1) jK mo Ca s0 =
 if (Ca:Int)<((List.length s0:Nat):Int) then
 if 0<=Ca then
 if Ca<((List.length s0:Nat):Int) then
 (xu k (rd aP s0 Ca) jK).bind fun r2=>
 if ¬ (r2=true) then
 if 0<=mo then
 if mo<((List.length s0:Nat):Int) then
 aO.l0 k m jK (IntKind.wrap .i64 (mo+1)) (IntKind.wrap .i64 (Ca+1)) (List.set s0 (Int.toNat mo) (rd aP s0 Ca)) else none else none
 else aO.l0 k m jK mo (IntKind.wrap .i64 (Ca+1)) s0 else none else none
 else if 0<=mo then
 if mo<=((List.length s0:Nat):Int) then
 if 0<=mo then
 if mo<=((List.length (List.take (Int.toNat mo) s0++List.replicate ((Int.toNat ((List.length s0:Nat):Int)) - (Int.toNat mo)) (Ty.dflt aP)++List.drop ((Int.toNat mo)+((Int.toNat ((List.length s0:Nat):Int)) - (Int.toNat mo))) s0):Nat):Int) then
 some (List.take ((Int.toNat mo) - (Int.toNat 0)) (List.drop (Int.toNat 0) (List.take (Int.toNat mo) s0++List.replicate ((Int.toNat ((List.length s0:Nat):Int)) - (Int.toNat mo)) (Ty.dflt aP)++List.drop ((Int.toNat mo)+((Int.toNat ((List.length s0:Nat):Int)) - (Int.toNat mo))) s0))) else none else none else none else none:=by kernel_rfl
theorem iI (k:Nat) (s_0 eG):au (k+1) s_0 eG =
 (ay k s_0 eG).bind fun r1=>
 if (r1:Int)=(-1) then
 some s_0
 else au.l0 k k eG r1 (IntKind.wrap .i64 (r1+1)) s_0:=by kernel_rfl
theorem au.aj (k m:Nat) (jK mo Ca s0):au.l0 k (m+1) jK mo Ca s0 =
 if (Ca:Int)<((List.length s0:Nat):Int) then
 if 0<=Ca then
 if Ca<((List.length s0:Nat):Int) then
 (jc k (rd aP s0 Ca) jK).bind fun r2=>
 if ¬ (r2=true) then
 if 0<=mo then
 if mo<((List.length s0:Nat):Int) then
 au.l0 k m jK (IntKind.wrap .i64 (mo+1)) (IntKind.wrap .i64 (Ca+1)) (List.set s0 (Int.toNat mo) (rd aP s0 Ca)) else none else none
 else au.l0 k m jK mo (IntKind.wrap .i64 (Ca+1)) s0 else none else none
 else if 0<=mo then
 if mo<=((List.length s0:Nat):Int) then
 if 0<=mo then
 if mo<=((List.length (List.take (Int.toNat mo) s0++List.replicate ((Int.toNat ((List.length s0:Nat):Int)) - (Int.toNat mo)) (Ty.dflt aP)++List.drop ((Int.toNat mo)+((Int.toNat ((List.length s0:Nat):Int)) - (Int.toNat mo))) s0):Nat):Int) then
 some (List.take ((Int.toNat mo) - (Int.toNat 0)) (List.drop (Int.toNat 0) (List.take (Int.toNat mo) s0++List.replicate ((Int.toNat ((List.length s0:Nat):Int)) - (Int.toNat mo)) (Ty.dflt aP)++List.drop ((Int.toNat mo)+((Int.toNat ((List.length s0:Nat):Int)) - (Int.toNat mo))) s0))) else none else none else none else none:=by kernel_rfl
theorem JX (k:Nat) (Eb Oq):uK (k+1) Eb Oq =
 if (Oq:Int)<0 then
 if ((IntKind.wrap .i64 (-Oq)):Int)=0 then
 some ((0,(0,())),(false,()))
 else (gF k (max (IntKind.wrap .i64 (-Eb)) (IntKind.wrap .i64 (-(IntKind.wrap .i64 (-Eb)))):Int) (IntKind.wrap .i64 (-Oq))).bind fun r1=>
 if r1=(0:Int) then
 none
 else if r1=(0:Int) then
 none
 else (jd k (IntKind.wrap .i64 (Int.tdiv (IntKind.wrap .i64 (-Eb)) r1),(IntKind.wrap .i64 (Int.tdiv (IntKind.wrap .i64 (-Oq)) r1),()))).bind fun r2=>
 if ¬ (r2=true) then
 some ((0,(0,())),(false,()))
 else some ((IntKind.wrap .i64 (Int.tdiv (IntKind.wrap .i64 (-Eb)) r1),(IntKind.wrap .i64 (Int.tdiv (IntKind.wrap .i64 (-Oq)) r1),())),(true,()))
 else if (Oq:Int)=0 then
 some ((0,(0,())),(false,()))
 else (gF k (max Eb (IntKind.wrap .i64 (-Eb)):Int) Oq).bind fun r3=>
 if r3=(0:Int) then
 none
 else if r3=(0:Int) then
 none
 else (jd k (IntKind.wrap .i64 (Int.tdiv Eb r3),(IntKind.wrap .i64 (Int.tdiv Oq r3),()))).bind fun r4=>
 if ¬ (r4=true) then
 some ((0,(0,())),(false,()))
 else some ((IntKind.wrap .i64 (Int.tdiv Eb r3),(IntKind.wrap .i64 (Int.tdiv Oq r3),())),(true,())):=by kernel_rfl
theorem GR (k:Nat) (a_0 b_1):gF (k+1) a_0 b_1 =
 gF.l0 k k a_0 b_1:=by kernel_rfl
theorem gF.aj (k m:Nat) (a_0 b_1):gF.l0 k (m+1) a_0 b_1 =
 if (b_1:Int) ≠ 0 then
 if b_1=(0:Int) then
 none
 else gF.l0 k m b_1 (Int.tmod a_0 b_1)
 else some a_0:=by kernel_rfl
theorem Db (k:Nat) (fV GJ):bQ (k+1) fV GJ =
 bQ.l0 k k fV GJ.1 ((List.length GJ.1:Nat):Int) 0 GJ.1 GJ.2.1:=by kernel_rfl
theorem bQ.aj (k m:Nat) (fV eH jl iZ dK dF):bQ.l0 k (m+1) fV eH jl iZ dK dF =
 if (iZ:Int)<jl then
 if 0<=iZ then
 if iZ<((List.length eH:Nat):Int) then
 (aK k (rd (.int .i64) eH iZ) 0 1000).bind fun r1=>
 if ¬ (r1=true) then
 some false
 else if (0:Int)<iZ then
 if 0<=(IntKind.wrap .i64 (iZ - 1)) then
 if (IntKind.wrap .i64 (iZ - 1))<((List.length dK:Nat):Int) then
 (aK k (IntKind.wrap .i64 ((rd (.int .i64) eH iZ) - (rd (.int .i64) dK (IntKind.wrap .i64 (iZ - 1))))) (-1) 1).bind fun r2=>
 if ¬ (r2=true) then
 some false
 else bQ.l0 k m fV eH jl (IntKind.wrap .i64 (iZ+1)) dK dF else none else none
 else bQ.l0 k m fV eH jl (IntKind.wrap .i64 (iZ+1)) dK dF else none else none
 else if (((List.length fV:Nat):Int):Int)<=40 then
 if (((List.length dK:Nat):Int):Int)=(IntKind.wrap .i64 (((List.length fV:Nat):Int)+1)) then
 (aK k dF 0 1000).bind fun r3=>
 some (decide (r3=true))
 else some false
 else some false:=by kernel_rfl
theorem AJ (k:Nat) (a_0 b_1):Az (k+1) a_0 b_1 =
 if (a_0:Int) ≠ b_1 then
 some 1
 else some 0:=by kernel_rfl
theorem zM (k:Nat) (f_0 nu):bX (k+1) f_0 nu =
 bX.l0 k k nu (-1) (-1) f_0.1 ((List.length f_0.1:Nat):Int) 0:=by kernel_rfl
theorem bX.aj (k m:Nat) (nu zl JR fQ kQ gH):bX.l0 k (m+1) nu zl JR fQ kQ gH =
 if (gH:Int)<kQ then
 if 0<=gH then
 if gH<((List.length fQ:Nat):Int) then
 if LE.le (α:=Int) (rd (.int .i64) fQ gH) nu then
 if (zl:Int)<0 then
 bX.l0 k m nu gH gH fQ kQ (IntKind.wrap .i64 (gH+1))
 else bX.l0 k m nu zl gH fQ kQ (IntKind.wrap .i64 (gH+1))
 else bX.l0 k m nu zl JR fQ kQ (IntKind.wrap .i64 (gH+1)) else none else none
 else some (zl,(JR,())):=by kernel_rfl
theorem Ll (k:Nat) (lV Fu):CV (k+1) lV Fu =
 (bK k lV ((List.length Fu:Nat):Int)).bind fun r1=>
 if 0<=r1.1 then
 if r1.1<((List.length Fu:Nat):Int) then
 some ((rd (.int .i64) Fu r1.1),r1.2) else none else none:=by kernel_rfl
theorem GU (k:Nat) (bI):zm (k+1) bI =
 if (List.length ([]:(List aC))+List.length bI.1)*32<=211106232532992 then
 if (List.length ([]:(List aZ))+List.length bI.2.2.1)*16<=211106232532992 then
 (ig k bI.2.2.2.1).bind fun r1=>
 if (List.length ([]:(List Int))+List.length bI.2.2.2.2.1)*8<=211106232532992 then
 if (List.length ([]:(List eX))+List.length bI.2.2.2.2.2.1)*40<=211106232532992 then
 if (List.length ([]:(List aZ))+List.length bI.2.2.2.2.2.2.1)*16<=211106232532992 then
 some ((([]:(List aC))++bI.1),(bI.2.1,((([]:(List aZ))++bI.2.2.1),(r1,((([]:(List Int))++bI.2.2.2.2.1),((([]:(List eX))++bI.2.2.2.2.2.1),((([]:(List aZ))++bI.2.2.2.2.2.2.1),bI.2.2.2.2.2.2.2))))))) else none else none else none else none else none:=by kernel_rfl
theorem gB (k:Nat) (bI):tH (k+1) bI =
 (dZ k bI.1).bind fun r1=>
 if r1=true then
 (zo k bI.2.1).bind fun r2=>
 if r2=true then
 (fC k bI.2.2.1).bind fun r3=>
 if r3=true then
 (fu k bI.2.2.2.2.2.1).bind fun r4=>
 if r4=true then
 (eT k bI.2.2.2.2.2.2.1).bind fun r5=>
 if r5=true then
 (aX k bI.2.2.2.1 bI.1 bI.2.2.2.2.1).bind fun r6=>
 if r6=true then
 (gq k bI.2.2.2.2.2.2.2.1 1 9999).bind fun r7=>
 if r7=true then
 (gq k bI.2.2.2.2.2.2.2.2.1 0 100000).bind fun r8=>
 some (decide (r8=true))
 else some false
 else some false
 else some false
 else some false
 else some false
 else some false
 else some false:=by kernel_rfl
theorem JY (k:Nat) (lV bN zn):gP (k+1) lV bN zn =
 (bK k lV zn).bind fun r1=>
 gP.l0 k k bN 0 r1.1 r1.2.1 r1.2.2.1 r1.2.2.2.1 []:=by kernel_rfl
theorem gP.aj (k m:Nat) (bN RY JU dK dF iw s1):gP.l0 k (m+1) bN RY JU dK dF iw s1 =
 if (0:Int)<JU then
 (bK k (dK,(dF,(iw,()))) 3).bind fun r2=>
 (bK k r2.2 8).bind fun r3=>
 (AA k r3.2 5).bind fun r4=>
 if r4.1=true then
 (qg k s1 (RY,(IntKind.wrap .i64 (6*(IntKind.wrap .i64 (1+r2.1))),(IntKind.wrap .i64 (60+r3.1),(bN,()))))).bind fun r5=>
 gP.l0 k m bN (IntKind.wrap .i64 ((IntKind.wrap .i64 (RY+(IntKind.wrap .i64 (6*(IntKind.wrap .i64 (1+r2.1))))))+12)) (IntKind.wrap .i64 (JU - 1)) r4.2.1 r4.2.2.1 r4.2.2.2.1 r5.1
 else (qg k s1 (RY,(IntKind.wrap .i64 (6*(IntKind.wrap .i64 (1+r2.1))),(IntKind.wrap .i64 (60+r3.1),(bN,()))))).bind fun r6=>
 gP.l0 k m bN (IntKind.wrap .i64 (RY+(IntKind.wrap .i64 (6*(IntKind.wrap .i64 (1+r2.1)))))) (IntKind.wrap .i64 (JU - 1)) r4.2.1 r4.2.2.1 r4.2.2.2.1 r6.1
 else some (s1,(dK,(dF,(iw,())))):=by kernel_rfl
theorem yD (k:Nat) (aG e_1):qg (k+1) aG e_1 =
 (jP k aG e_1).bind fun r1=>
 (dZ k r1).bind fun r2=>
 if ¬ (r2=true) then
 if (List.length ([]:(List aC))+List.length aG)*32<=211106232532992 then
 some ((([]:(List aC))++aG),(false,())) else none
 else some (r1,(true,())):=by kernel_rfl
theorem AL (k:Nat) (lV):qY (k+1) lV =
 if (33:Int)<0 then
 none
 else if (47:Int)<0 then
 none
 else if (lV.2.1:Int)<((List.length lV.1:Nat):Int) then
 if 0<=lV.2.1 then
 if lV.2.1<((List.length lV.1:Nat):Int) then
 some (IntKind.wrap .i64 (((BitVec.ofInt (IntKind.bits .i64) (IntKind.wrap .i64 ((IntKind.wrap .i64 (((BitVec.ofInt (IntKind.bits .i64) (IntKind.wrap .i64 (((BitVec.ofInt (IntKind.bits .i64) (Int.fdiv (IntKind.wrap .i64 ((IntKind.wrap .i64 (lV.2.2.1*6364136223846793005))+1442695040888963407)) (2 ^ (min (Int.toNat 33) (IntKind.bits .i64)))) ^^^ BitVec.ofInt (IntKind.bits .i64) (Int.fdiv (IntKind.wrap .i64 ((IntKind.wrap .i64 (lV.2.2.1*6364136223846793005))+1442695040888963407)) (2 ^ (min (Int.toNat 47) (IntKind.bits .i64))))).toNat:Nat))) &&& BitVec.ofInt (IntKind.bits .i64) 255).toNat:Nat)))+(IntKind.wrap .i64 ((rd (.int .u8) lV.1 lV.2.1))))) &&& BitVec.ofInt (IntKind.bits .i64) 255).toNat:Nat)),(lV.1,(IntKind.wrap .i64 (lV.2.1+1),(IntKind.wrap .i64 ((IntKind.wrap .i64 (lV.2.2.1*6364136223846793005))+1442695040888963407),())))) else none else none
 else some (IntKind.wrap .i64 (((BitVec.ofInt (IntKind.bits .i64) (IntKind.wrap .i64 (((BitVec.ofInt (IntKind.bits .i64) (Int.fdiv (IntKind.wrap .i64 ((IntKind.wrap .i64 (lV.2.2.1*6364136223846793005))+1442695040888963407)) (2 ^ (min (Int.toNat 33) (IntKind.bits .i64)))) ^^^ BitVec.ofInt (IntKind.bits .i64) (Int.fdiv (IntKind.wrap .i64 ((IntKind.wrap .i64 (lV.2.2.1*6364136223846793005))+1442695040888963407)) (2 ^ (min (Int.toNat 47) (IntKind.bits .i64))))).toNat:Nat))) &&& BitVec.ofInt (IntKind.bits .i64) 255).toNat:Nat)),(lV.1,(lV.2.1,(IntKind.wrap .i64 ((IntKind.wrap .i64 (lV.2.2.1*6364136223846793005))+1442695040888963407),())))):=by kernel_rfl
theorem GV (k:Nat) (lV):vQ (k+1) lV =
 (bK k lV 20).bind fun r1=>
 (bK k r1.2 10).bind fun r2=>
 (bK k r2.2 18).bind fun r3=>
 (bK k r3.2 3).bind fun r4=>
 some ((IntKind.wrap .i64 (6*r1.1),(IntKind.wrap .i64 (3*(IntKind.wrap .i64 (1+r2.1))),(IntKind.wrap .i64 (55+r3.1),(IntKind.wrap .i64 (1+r4.1),())))),r4.2):=by kernel_rfl
theorem GX (k:Nat) (lV):vR (k+1) lV =
 (bK k lV 5).bind fun r1=>
 (bK k r1.2 4).bind fun r2=>
 (bK k r2.2 4).bind fun r3=>
 (bK k r3.2 5).bind fun r4=>
 (bK k r4.2 3).bind fun r5=>
 some ((IntKind.wrap .i64 (1+r1.1),(IntKind.wrap .i64 (1+r2.1),(r3.1,(r4.1,(IntKind.wrap .i64 (1+r5.1),()))))),r5.2):=by kernel_rfl
theorem vH (k:Nat) (bI a_1):kG (k+1) bI a_1 =
 (xQ k bI.1 a_1).bind fun r1=>
 some (decide (r1.2.1=true),(r1.1,(bI.2.1,(bI.2.2.1,(bI.2.2.2.1,(bI.2.2.2.2.1,(bI.2.2.2.2.2.1,(bI.2.2.2.2.2.2.1,(IntKind.wrap .i64 (bI.2.2.2.2.2.2.2.1+1),bI.2.2.2.2.2.2.2.2))))))))):=by kernel_rfl
theorem BL (k:Nat) (bI a_1):mE (k+1) bI a_1 =
 (wL k bI.1 a_1).bind fun r1=>
 some (decide (r1.2.1=true),(r1.1,(bI.2.1,(bI.2.2.1,(bI.2.2.2.1,(bI.2.2.2.2.1,(bI.2.2.2.2.2.1,(bI.2.2.2.2.2.2.1,(IntKind.wrap .i64 (bI.2.2.2.2.2.2.2.1+1),bI.2.2.2.2.2.2.2.2))))))))):=by kernel_rfl
theorem BM (k:Nat) (bI a_1):mF (k+1) bI a_1 =
 (bf k bI.2.2.1 a_1).bind fun r1=>
 if (r1:Int)<0 then
 if (List.length bI.2.2.1+List.length ([a_1]:(List aZ)))*16<=211106232532992 then
 some (true,(bI.1,(bI.2.1,((bI.2.2.1++([a_1]:(List aZ))),bI.2.2.2)))) else none
 else if 0<=r1 then
 if r1<((List.length bI.2.2.1:Nat):Int) then
 if Eq (α:=Int) (rd aY bI.2.2.1 r1).1 a_1.1 then
 if 0<=r1 then
 if r1<((List.length bI.2.2.1:Nat):Int) then
 some (true,(bI.1,(bI.2.1,((List.set bI.2.2.1 (Int.toNat r1) a_1),bI.2.2.2)))) else none else none
 else (lM k bI.2.2.1 r1 [a_1]).bind fun r2=>
 some (true,(bI.1,(bI.2.1,(r2,bI.2.2.2)))) else none else none:=by kernel_rfl
theorem Dc (k:Nat) (bI a_1):ny (k+1) bI a_1 =
 (tJ k bI.2.2.2.1 bI.1 a_1).bind fun r1=>
 some (decide (r1.2.1=true),(bI.1,(bI.2.1,(bI.2.2.1,(bI.2.2.2.1,(r1.1,bI.2.2.2.2.2)))))):=by kernel_rfl
theorem lW (k:Nat) (bI a_1):kH (k+1) bI a_1 =
 (aU k bI.2.2.2.1 a_1).bind fun r1=>
 if (r1:Int)<0 then
 some (false,bI)
 else (aD k bI.2.2.2.2.1 a_1).bind fun r2=>
 if (0:Int)<=r2 then
 (dP k bI.2.2.2.1 bI.1 bI.2.2.2.2.1 (IntKind.wrap .i64 (r2+1))).bind fun r3=>
 if ¬ (r3.2.1=true) then
 some (false,bI)
 else if 0<=r2 then
 if r2<((List.length bI.2.2.2.2.1:Nat):Int) then
 (jk k bI.2.2.2.1 r1 (IntKind.wrap .i64 (r1+1))).bind fun r4=>
 some (true,(bI.1,(bI.2.1,(bI.2.2.1,(r4,((List.set bI.2.2.2.2.1 (Int.toNat r2) r3.1),bI.2.2.2.2.2)))))) else none else none
 else (jk k bI.2.2.2.1 r1 (IntKind.wrap .i64 (r1+1))).bind fun r5=>
 some (true,(bI.1,(bI.2.1,(bI.2.2.1,(r5,bI.2.2.2.2))))):=by kernel_rfl
theorem Df (k:Nat) (bI a_1):dx (k+1) bI a_1 =
 dx.l0 k k a_1 0 ((List.length bI.2.2.2.1:Nat):Int) 0 bI.2.1.1 bI.2.1.2.1 bI.2.2.2.2.2.2.2.1 bI.2.2.2.2.2.2.2.2.1 bI.2.2.2.1 bI.1 bI.2.2.1 bI.2.2.2.2.1 bI.2.2.2.2.2.1 bI.2.2.2.2.2.2.1:=by kernel_rfl
theorem dx.aj (k m:Nat) (t_1 Ug fQ kQ dF iw Fj Fp s1 s2 s3 s4 s5 s6):dx.l0 k (m+1) t_1 Ug fQ kQ dF iw Fj Fp s1 s2 s3 s4 s5 s6 =
 if (kQ:Int)<fQ then
 if 0<=kQ then
 if kQ<((List.length s1:Nat):Int) then
 if Eq (α:=Int) (rd dL s1 kQ).1 t_1.1 then
 some (false,(s2,((dF,(iw,())),(s3,(s1,(s4,(s5,(s6,(Fj,(Fp,()))))))))))
 else if LT.lt (α:=Int) (rd dL s1 kQ).1 t_1.1 then
 dx.l0 k m t_1 (IntKind.wrap .i64 (Ug+1)) fQ (IntKind.wrap .i64 (kQ+1)) dF iw Fj Fp s1 s2 s3 s4 s5 s6
 else dx.l0 k m t_1 Ug fQ (IntKind.wrap .i64 (kQ+1)) dF iw Fj Fp s1 s2 s3 s4 s5 s6 else none else none
 else (oV k t_1).bind fun r1=>
 (kR k s1 Ug [r1]).bind fun r2=>
 some (true,(s2,((dF,(iw,())),(s3,(r2,(s4,(s5,(s6,(Fj,(Fp,())))))))))):=by kernel_rfl
theorem Dg (k:Nat) (bI a_1 a_2 Yh a_4):nA (k+1) bI a_1 a_2 Yh a_4 =
 (zq k bI.2.2.2.2.2.1 (a_1,(a_2,(Yh,(bI.2.2.2.2.2.2.2.2.1,(a_4,())))))).bind fun r1=>
 (bS k bI.2.2.2.2.2.1 r1).bind fun r2=>
 some (decide (¬ (r2=true)),(bI.1,(bI.2.1,(bI.2.2.1,(bI.2.2.2.1,(bI.2.2.2.2.1,(r1,bI.2.2.2.2.2.2))))))):=by kernel_rfl
theorem qK (k:Nat) (bI a_1):nC (k+1) bI a_1 =
 (aK k a_1 1 1000).bind fun r1=>
 if ¬ (r1=true) then
 some (false,bI)
 else (aK k bI.2.2.2.2.2.2.2.2.1 0 100000).bind fun r2=>
 if ¬ (r2=true) then
 some (false,bI)
 else some (true,(bI.1,(bI.2.1,(bI.2.2.1,(bI.2.2.2.1,(bI.2.2.2.2.1,(bI.2.2.2.2.2.1,(bI.2.2.2.2.2.2.1,(bI.2.2.2.2.2.2.2.1,(IntKind.wrap .i64 (bI.2.2.2.2.2.2.2.2.1+a_1),())))))))))):=by kernel_rfl
theorem eU (k:Nat) (x_0 y_1):cmp_Compare_int (k+1) x_0 y_1 =
 (cmp_isNaN_int k x_0).bind fun r1=>
 (cmp_isNaN_int k y_1).bind fun r2=>
 if r1=true then
 if r2=true then
 some 0
 else some (-1)
 else if r2=true then
 some 1
 else if (x_0:Int)<y_1 then
 some (-1)
 else if (y_1:Int)<x_0 then
 some 1
 else some 0:=by kernel_rfl
theorem nI (k:Nat) (oq):aS (k+1) oq =
 aS.l0 k k 0 oq ((List.length oq:Nat):Int) 0:=by kernel_rfl
theorem aS.aj (k m:Nat) (mh oP dn eH):aS.l0 k (m+1) mh oP dn eH =
 if (eH:Int)<dn then
 if 0<=eH then
 if eH<((List.length oP:Nat):Int) then
 if Ne (α:=Int) (rd (.int .i64) oP eH) mh then
 some (rd (.int .i64) oP eH)
 else aS.l0 k m mh oP dn (IntKind.wrap .i64 (eH+1)) else none else none
 else some mh:=by kernel_rfl
theorem rO (k:Nat) (aG dX bZ):aW (k+1) aG dX bZ =
 aW.l0 k k aG dX bZ aG ((List.length aG:Nat):Int) 0:=by kernel_rfl
theorem aW.aj (k m:Nat) (aG dX bZ jl iZ fQ):aW.l0 k (m+1) aG dX bZ jl iZ fQ =
 if (fQ:Int)<iZ then
 if 0<=fQ then
 if fQ<((List.length jl:Nat):Int) then
 (aK k (rd (.int .i64) jl fQ) dX bZ).bind fun r1=>
 if ¬ (r1=true) then
 some false
 else if (0:Int)<fQ then
 if 0<=(IntKind.wrap .i64 (fQ - 1)) then
 if (IntKind.wrap .i64 (fQ - 1))<((List.length aG:Nat):Int) then
 if LE.le (α:=Int) (rd (.int .i64) jl fQ) (rd (.int .i64) aG (IntKind.wrap .i64 (fQ - 1))) then
 some false
 else aW.l0 k m aG dX bZ jl iZ (IntKind.wrap .i64 (fQ+1)) else none else none
 else aW.l0 k m aG dX bZ jl iZ (IntKind.wrap .i64 (fQ+1)) else none else none
 else some true:=by kernel_rfl
theorem ji (k:Nat) (s_0 v_1):aD (k+1) s_0 v_1 =
 aD.l0 k k s_0 v_1 ((List.length s_0:Nat):Int) 0:=by kernel_rfl
theorem aD.aj (k m:Nat) (s_0 v_1 dn eH):aD.l0 k (m+1) s_0 v_1 dn eH =
 if (eH:Int)<dn then
 if 0<=eH then
 if eH<((List.length s_0:Nat):Int) then
 if Eq (α:=Int) v_1 (rd (.int .i64) s_0 eH) then
 some eH
 else aD.l0 k m s_0 v_1 dn (IntKind.wrap .i64 (eH+1)) else none else none
 else some (-1):=by kernel_rfl
theorem qj (k:Nat) (s_0 eG Ee Ef):aT (k+1) s_0 eG Ee Ef =
 aT.l0 k k s_0 eG Ee Ef ((List.length s_0:Nat):Int) 0:=by kernel_rfl
theorem aT.aj (k m:Nat) (s_0 iU Eh Ei dn eH):aT.l0 k (m+1) s_0 iU Eh Ei dn eH =
 if (eH:Int)<dn then
 if 0<=eH then
 if eH<((List.length s_0:Nat):Int) then
 (tK k (rd dL s_0 eH) iU Eh Ei).bind fun r1=>
 if r1=true then
 some eH
 else aT.l0 k m s_0 iU Eh Ei dn (IntKind.wrap .i64 (eH+1)) else none else none
 else some (-1):=by kernel_rfl
theorem qL (k:Nat) (s_0 eG):aQ (k+1) s_0 eG =
 aQ.l0 k k s_0 eG ((List.length s_0:Nat):Int) 0:=by kernel_rfl
theorem aQ.aj (k m:Nat) (s_0 iU dn eH):aQ.l0 k (m+1) s_0 iU dn eH =
 if (eH:Int)<dn then
 if 0<=eH then
 if eH<((List.length s_0:Nat):Int) then
 (xu k (rd aP s_0 eH) iU).bind fun r1=>
 if r1=true then
 some eH
 else aQ.l0 k m s_0 iU dn (IntKind.wrap .i64 (eH+1)) else none else none
 else some (-1):=by kernel_rfl
theorem JZ (k:Nat) (KN a_1):xu (k+1) KN a_1 =
 some (decide ((a_1:Int)<KN.2.2.2.1)):=by kernel_rfl
theorem iP (k:Nat) (s_0 eG):ay (k+1) s_0 eG =
 ay.l0 k k s_0 eG ((List.length s_0:Nat):Int) 0:=by kernel_rfl
theorem ay.aj (k m:Nat) (s_0 iU dn eH):ay.l0 k (m+1) s_0 iU dn eH =
 if (eH:Int)<dn then
 if 0<=eH then
 if eH<((List.length s_0:Nat):Int) then
 (jc k (rd aP s_0 eH) iU).bind fun r1=>
 if r1=true then
 some eH
 else ay.l0 k m s_0 iU dn (IntKind.wrap .i64 (eH+1)) else none else none
 else some (-1):=by kernel_rfl
theorem rQ (k:Nat) (KN a_1):jc (k+1) KN a_1 =
 some (decide ((KN.2.2.2.1:Int) ≠ a_1)):=by kernel_rfl
theorem GY (k:Nat) (aG):ig (k+1) aG =
 ig.l0 k k aG 0 []:=by kernel_rfl
theorem ig.aj (k m:Nat) (aG xq s0):ig.l0 k (m+1) aG xq s0 =
 if (xq:Int)<((List.length aG:Nat):Int) then
 if 0<=xq then
 if xq<((List.length aG:Nat):Int) then
 if (List.length ([]:(List Int))+List.length (rd dL aG xq).2.2.2.1)*8<=211106232532992 then
 if (List.length s0+List.length ([((rd dL aG xq).1,((rd dL aG xq).2.1,((rd dL aG xq).2.2.1,((([]:(List Int))++(rd dL aG xq).2.2.2.1),()))))]:(List bT)))*48<=211106232532992 then
 ig.l0 k m aG (IntKind.wrap .i64 (xq+1)) (s0++([((rd dL aG xq).1,((rd dL aG xq).2.1,((rd dL aG xq).2.2.1,((([]:(List Int))++(rd dL aG xq).2.2.2.1),()))))]:(List bT))) else none else none else none else none
 else some s0:=by kernel_rfl
theorem GZ (k:Nat) (aG):dZ (k+1) aG =
 dZ.l0 k k aG 0:=by kernel_rfl
theorem dZ.aj (k m:Nat) (aG iW):dZ.l0 k (m+1) aG iW =
 if (iW:Int)<((List.length aG:Nat):Int) then
 if 0<=iW then
 if iW<((List.length aG:Nat):Int) then
 (Fw k (rd aP aG iW)).bind fun r1=>
 if ¬ (r1=true) then
 some false
 else if (0:Int)<iW then
 if 0<=(IntKind.wrap .i64 (iW - 1)) then
 if (IntKind.wrap .i64 (iW - 1))<((List.length aG:Nat):Int) then
 if 0<=iW then
 if iW<((List.length aG:Nat):Int) then
 (um k (rd aP aG (IntKind.wrap .i64 (iW - 1))) (rd aP aG iW)).bind fun r2=>
 if ¬ (r2=true) then
 some false
 else dZ.l0 k m aG (IntKind.wrap .i64 (iW+1)) else none else none else none else none
 else dZ.l0 k m aG (IntKind.wrap .i64 (iW+1)) else none else none
 else some (decide ((((List.length aG:Nat):Int):Int)<=40)):=by kernel_rfl
theorem nD (k:Nat) (KO):zo (k+1) KO =
 (gq k KO.1 1 12).bind fun r1=>
 if r1=true then
 if (KO.2.1:Int)=1 then
 some true
 else if (KO.2.1:Int)=2 then
 some true
 else if (KO.2.1:Int)=4 then
 some true
 else some (decide ((KO.2.1:Int)=8))
 else some false:=by kernel_rfl
theorem He (k:Nat) (aG):fC (k+1) aG =
 fC.l0 k k aG 0:=by kernel_rfl
theorem fC.aj (k m:Nat) (aG iW):fC.l0 k (m+1) aG iW =
 if (iW:Int)<((List.length aG:Nat):Int) then
 if 0<=iW then
 if iW<((List.length aG:Nat):Int) then
 (gq k (rd aY aG iW).2.1 20 300).bind fun r1=>
 if ¬ (r1=true) then
 some false
 else if 0<=iW then
 if iW<((List.length aG:Nat):Int) then
 (gq k (rd aY aG iW).1 0 2000).bind fun r2=>
 if ¬ (r2=true) then
 some false
 else if (iW:Int)=0 then
 if 0<=iW then
 if iW<((List.length aG:Nat):Int) then
 if Ne (α:=Int) (rd aY aG iW).1 0 then
 some false
 else if (0:Int)<iW then
 if 0<=(IntKind.wrap .i64 (iW - 1)) then
 if (IntKind.wrap .i64 (iW - 1))<((List.length aG:Nat):Int) then
 if 0<=iW then
 if iW<((List.length aG:Nat):Int) then
 if LE.le (α:=Int) (rd aY aG iW).1 (rd aY aG (IntKind.wrap .i64 (iW - 1))).1 then
 some false
 else fC.l0 k m aG (IntKind.wrap .i64 (iW+1)) else none else none else none else none
 else fC.l0 k m aG (IntKind.wrap .i64 (iW+1)) else none else none
 else if (0:Int)<iW then
 if 0<=(IntKind.wrap .i64 (iW - 1)) then
 if (IntKind.wrap .i64 (iW - 1))<((List.length aG:Nat):Int) then
 if 0<=iW then
 if iW<((List.length aG:Nat):Int) then
 if LE.le (α:=Int) (rd aY aG iW).1 (rd aY aG (IntKind.wrap .i64 (iW - 1))).1 then
 some false
 else fC.l0 k m aG (IntKind.wrap .i64 (iW+1)) else none else none else none else none
 else fC.l0 k m aG (IntKind.wrap .i64 (iW+1)) else none else none else none else none
 else (gq k ((List.length aG:Nat):Int) 1 8).bind fun r3=>
 some (decide (r3=true)):=by kernel_rfl
theorem FK (k:Nat) (aG):fu (k+1) aG =
 fu.l0 k k aG 0:=by kernel_rfl
theorem fu.aj (k m:Nat) (aG iW):fu.l0 k (m+1) aG iW =
 if (iW:Int)<((List.length aG:Nat):Int) then
 if 0<=iW then
 if iW<((List.length aG:Nat):Int) then
 (gq k (rd gX aG iW).1 1 100).bind fun r1=>
 if ¬ (r1=true) then
 some false
 else (gq k (rd gX aG iW).2.1 1 4).bind fun r2=>
 if ¬ (r2=true) then
 some false
 else (gq k (rd gX aG iW).2.2.1 0 9).bind fun r3=>
 if ¬ (r3=true) then
 some false
 else (gq k (rd gX aG iW).2.2.2.1 0 100000).bind fun r4=>
 if ¬ (r4=true) then
 some false
 else (gq k (rd gX aG iW).2.2.2.2.1 1 99).bind fun r5=>
 if ¬ (r5=true) then
 some false
 else if (0:Int)<iW then
 if 0<=(IntKind.wrap .i64 (iW - 1)) then
 if (IntKind.wrap .i64 (iW - 1))<((List.length aG:Nat):Int) then
 (wM k (rd gX aG (IntKind.wrap .i64 (iW - 1))) (rd gX aG iW)).bind fun r6=>
 if ¬ (r6=true) then
 some false
 else fu.l0 k m aG (IntKind.wrap .i64 (iW+1)) else none else none
 else fu.l0 k m aG (IntKind.wrap .i64 (iW+1)) else none else none
 else some (decide ((((List.length aG:Nat):Int):Int)<=30)):=by kernel_rfl
theorem Dh (k:Nat) (aG):eT (k+1) aG =
 eT.l0 k k aG 0:=by kernel_rfl
theorem eT.aj (k m:Nat) (aG iW):eT.l0 k (m+1) aG iW =
 if (iW:Int)<((List.length aG:Nat):Int) then
 if 0<=iW then
 if iW<((List.length aG:Nat):Int) then
 if Ne (α:=Int) (rd aY aG iW).1 iW then
 some false
 else if 0<=iW then
 if iW<((List.length aG:Nat):Int) then
 (gq k (rd aY aG iW).2.1 1 500).bind fun r1=>
 if ¬ (r1=true) then
 some false
 else if (0:Int)<iW then
 if 0<=(IntKind.wrap .i64 (iW - 1)) then
 if (IntKind.wrap .i64 (iW - 1))<((List.length aG:Nat):Int) then
 if 0<=iW then
 if iW<((List.length aG:Nat):Int) then
 if LE.le (α:=Int) (rd aY aG iW).2.1 (rd aY aG (IntKind.wrap .i64 (iW - 1))).2.1 then
 some false
 else eT.l0 k m aG (IntKind.wrap .i64 (iW+1)) else none else none else none else none
 else eT.l0 k m aG (IntKind.wrap .i64 (iW+1)) else none else none else none else none
 else some (decide ((((List.length aG:Nat):Int):Int)<=26)):=by kernel_rfl
theorem Ez (k:Nat) (aG dD bU):aX (k+1) aG dD bU =
 aX.l0 k k aG dD bU 0:=by kernel_rfl
theorem aX.aj (k m:Nat) (aG dD bU Cc):aX.l0 k (m+1) aG dD bU Cc =
 if (Cc:Int)<((List.length bU:Nat):Int) then
 aX.l1 k k m aG dD bU Cc false 0
 else (aM k aG).bind fun r1=>
 if r1=true then
 (dZ k dD).bind fun r2=>
 if r2=true then
 some (decide ((((List.length bU:Nat):Int):Int)<=4))
 else some false
 else some false:=by kernel_rfl
theorem aX.yA (k m m1:Nat) (aG dD bU Cc Fv Fe):aX.l1 k (m+1) m1 aG dD bU Cc Fv Fe =
 if (Fe:Int)<((List.length aG:Nat):Int) then
 if Fv=true then
 aX.l1 k m m1 aG dD bU Cc true (IntKind.wrap .i64 (Fe+1))
 else if 0<=Fe then
 if Fe<((List.length aG:Nat):Int) then
 if 0<=Cc then
 if Cc<((List.length bU:Nat):Int) then
 if Eq (α:=Int) (rd dL aG Fe).1 (rd (.int .i64) bU Cc) then
 if 0<=Fe then
 if Fe<((List.length aG:Nat):Int) then
 (zu k (rd dL aG Fe) dD (IntKind.wrap .i64 (Cc+1))).bind fun r3=>
 aX.l1 k m m1 aG dD bU Cc (decide (r3=true)) (IntKind.wrap .i64 (Fe+1)) else none else none
 else aX.l1 k m m1 aG dD bU Cc false (IntKind.wrap .i64 (Fe+1)) else none else none else none else none
 else if ¬ (Fv=true) then
 some false
 else if 0<=Cc then
 if Cc<=((List.length bU:Nat):Int) then
 if 0<=Cc then
 if Cc<((List.length bU:Nat):Int) then
 (iD k (List.take ((Int.toNat Cc) - (Int.toNat 0)) (List.drop (Int.toNat 0) bU)) (rd (.int .i64) bU Cc)).bind fun r4=>
 if r4=true then
 some false
 else aX.l0 k m1 aG dD bU (IntKind.wrap .i64 (Cc+1)) else none else none else none else none:=by kernel_rfl
theorem EA (k:Nat) (x_0 Il zn):gq (k+1) x_0 Il zn =
 if (Il:Int)<=x_0 then
 some (decide ((x_0:Int)<=zn))
 else some false:=by kernel_rfl
theorem Ka (k:Nat) (lV Dn):AA (k+1) lV Dn =
 (bK k lV Dn).bind fun r1=>
 some (decide ((r1.1:Int)=0),r1.2):=by kernel_rfl
theorem Lm (k:Nat) (aG e_1):jP (k+1) aG e_1 =
 jP.l0 k k aG 0 e_1.1 e_1.2.1 e_1.2.2.1 e_1.2.2.2.1:=by kernel_rfl
theorem jP.aj (k m:Nat) (aG vS dK dF iw lq):jP.l0 k (m+1) aG vS dK dF iw lq =
 if (vS:Int)<((List.length aG:Nat):Int) then
 if 0<=vS then
 if vS<((List.length aG:Nat):Int) then
 (um k (rd aP aG vS) (dK,(dF,(iw,(lq,()))))).bind fun r1=>
 if r1=true then
 jP.l0 k m aG (IntKind.wrap .i64 (vS+1)) dK dF iw lq
 else if 0<=vS then
 if vS<=((List.length aG:Nat):Int) then
 if (List.length ([]:(List aC))+List.length (List.take ((Int.toNat vS) - (Int.toNat 0)) (List.drop (Int.toNat 0) aG)))*32<=211106232532992 then
 if (List.length (([]:(List aC))++(List.take ((Int.toNat vS) - (Int.toNat 0)) (List.drop (Int.toNat 0) aG)))+List.length ([(dK,(dF,(iw,(lq,()))))]:(List aC)))*32<=211106232532992 then
 if 0<=vS then
 if vS<=((List.length aG:Nat):Int) then
 if (List.length ((([]:(List aC))++(List.take ((Int.toNat vS) - (Int.toNat 0)) (List.drop (Int.toNat 0) aG)))++([(dK,(dF,(iw,(lq,()))))]:(List aC)))+List.length (List.take ((Int.toNat ((List.length aG:Nat):Int)) - (Int.toNat vS)) (List.drop (Int.toNat vS) aG)))*32<=211106232532992 then
 some (((([]:(List aC))++(List.take ((Int.toNat vS) - (Int.toNat 0)) (List.drop (Int.toNat 0) aG)))++([(dK,(dF,(iw,(lq,()))))]:(List aC)))++(List.take ((Int.toNat ((List.length aG:Nat):Int)) - (Int.toNat vS)) (List.drop (Int.toNat vS) aG))) else none else none else none else none else none else none else none else none else none
 else if 0<=vS then
 if vS<=((List.length aG:Nat):Int) then
 if (List.length ([]:(List aC))+List.length (List.take ((Int.toNat vS) - (Int.toNat 0)) (List.drop (Int.toNat 0) aG)))*32<=211106232532992 then
 if (List.length (([]:(List aC))++(List.take ((Int.toNat vS) - (Int.toNat 0)) (List.drop (Int.toNat 0) aG)))+List.length ([(dK,(dF,(iw,(lq,()))))]:(List aC)))*32<=211106232532992 then
 if 0<=vS then
 if vS<=((List.length aG:Nat):Int) then
 if (List.length ((([]:(List aC))++(List.take ((Int.toNat vS) - (Int.toNat 0)) (List.drop (Int.toNat 0) aG)))++([(dK,(dF,(iw,(lq,()))))]:(List aC)))+List.length (List.take ((Int.toNat ((List.length aG:Nat):Int)) - (Int.toNat vS)) (List.drop (Int.toNat vS) aG)))*32<=211106232532992 then
 some (((([]:(List aC))++(List.take ((Int.toNat vS) - (Int.toNat 0)) (List.drop (Int.toNat 0) aG)))++([(dK,(dF,(iw,(lq,()))))]:(List aC)))++(List.take ((Int.toNat ((List.length aG:Nat):Int)) - (Int.toNat vS)) (List.drop (Int.toNat vS) aG))) else none else none else none else none else none else none else none:=by kernel_rfl
theorem yE (k:Nat) (aG e_1):xQ (k+1) aG e_1 =
 (bg k aG e_1).bind fun r1=>
 if (r1:Int)<0 then
 (bD k aG).bind fun r2=>
 (jE k r2 ((List.length aG:Nat):Int) [e_1]).bind fun r3=>
 (aN k r3).bind fun r4=>
 if ¬ (r4=true) then
 (bD k aG).bind fun r5=>
 some (r5,(false,()))
 else some (r3,(true,()))
 else (bD k aG).bind fun r6=>
 (jE k r6 r1 [e_1]).bind fun r7=>
 (aN k r7).bind fun r8=>
 if ¬ (r8=true) then
 (bD k aG).bind fun r9=>
 some (r9,(false,()))
 else some (r7,(true,())):=by kernel_rfl
theorem sj (k:Nat) (aG e_1):wL (k+1) aG e_1 =
 (bV k aG e_1).bind fun r1=>
 (aN k aG).bind fun r2=>
 if ¬ (r2=true) then
 (bD k aG).bind fun r3=>
 some (r3,(false,()))
 else if (r1:Int)<0 then
 (bD k aG).bind fun r4=>
 some (r4,(false,()))
 else (bD k aG).bind fun r5=>
 (lN k r5 r1 (IntKind.wrap .i64 (r1+1))).bind fun r6=>
 some (r6,(true,())):=by kernel_rfl
theorem qM (k:Nat) (s_0 eG):bf (k+1) s_0 eG =
 bf.l0 k k s_0 eG ((List.length s_0:Nat):Int) 0:=by kernel_rfl
theorem bf.aj (k m:Nat) (s_0 iU dn eH):bf.l0 k (m+1) s_0 iU dn eH =
 if (eH:Int)<dn then
 if 0<=eH then
 if eH<((List.length s_0:Nat):Int) then
 (wN k (rd aY s_0 eH) iU).bind fun r1=>
 if r1=true then
 some eH
 else bf.l0 k m s_0 iU dn (IntKind.wrap .i64 (eH+1)) else none else none
 else some (-1):=by kernel_rfl
theorem vT (k:Nat) (s_0:(List aZ)) (Ej:Int) (NV:(List aZ)):lM (k+1) s_0 Ej NV=(gN aY 16) (.list aY) [.give (.list aY) s_0,.val (.int .i64) Ej,.val (.list aY) NV]:=by kernel_rfl
theorem BN (k:Nat) (aG:(List bT)) (dD:(List aC)) (El:Int):tJ (k+1) aG dD El=(uI Go.gy.QK Go.gy.QN Go.gy.Bv) (.pair (.list (.int .i64)) (.pair .bool .unit)) [.val (.list dL) aG,.val (.list aP) dD,.val (.int .i64) El]:=by kernel_rfl
theorem ql (k:Nat) (s_0 eG):aU (k+1) s_0 eG =
 aU.l0 k k s_0 eG ((List.length s_0:Nat):Int) 0:=by kernel_rfl
theorem aU.aj (k m:Nat) (s_0 iU dn eH):aU.l0 k (m+1) s_0 iU dn eH =
 if (eH:Int)<dn then
 if 0<=eH then
 if eH<((List.length s_0:Nat):Int) then
 (wP k (rd dL s_0 eH) iU).bind fun r1=>
 if r1=true then
 some eH
 else aU.l0 k m s_0 iU dn (IntKind.wrap .i64 (eH+1)) else none else none
 else some (-1):=by kernel_rfl
theorem qN (k:Nat) (aG dD bU qC):dP (k+1) aG dD bU qC =
 (dV k aG dD bU).bind fun r1=>
 if ¬ (r1=true) then
 some (0,(false,()))
 else (aK k qC 1 ((List.length bU:Nat):Int)).bind fun r2=>
 if ¬ (r2=true) then
 some (0,(false,()))
 else dP.l0 k k dD bU qC aG ((List.length aG:Nat):Int) 0:=by kernel_rfl
theorem dP.aj (k m:Nat) (dD bU qC lJ lK qJ):dP.l0 k (m+1) dD bU qC lJ lK qJ =
 if (qJ:Int)<lK then
 if 0<=qJ then
 if qJ<((List.length lJ:Nat):Int) then
 (cB k bU (rd dL lJ qJ).1).bind fun r3=>
 if ¬ (r3=true) then
 (jZ k (rd dL lJ qJ) dD qC).bind fun r4=>
 if r4=true then
 some ((rd dL lJ qJ).1,(true,()))
 else dP.l0 k m dD bU qC lJ lK (IntKind.wrap .i64 (qJ+1))
 else dP.l0 k m dD bU qC lJ lK (IntKind.wrap .i64 (qJ+1)) else none else none
 else some (0,(false,())):=by kernel_rfl
theorem vw (k:Nat) (s_0:(List bT)) (Ej:Int) (Yi:Int):jk (k+1) s_0 Ej Yi=(kJ dL) (.list dL) [.give (.list dL) s_0,.val (.int .i64) Ej,.val (.int .i64) Yi]:=by kernel_rfl
theorem vB (k:Nat) (s_0:(List bT)) (Ej:Int) (NV:(List bT)):kR (k+1) s_0 Ej NV=(gN dL 48) (.list dL) [.give (.list dL) s_0,.val (.int .i64) Ej,.val (.list dL) NV]:=by kernel_rfl
theorem vC (k:Nat) (aG x_1):zq (k+1) aG x_1 =
 (eD k aG).bind fun r1=>
 if r1=true then
 (iV k aG).bind fun r2=>
 (JV k r2 x_1).bind fun r3=>
 (eD k r3).bind fun r4=>
 if r4=true then
 some r3
 else (iV k aG).bind fun r5=>
 some r5
 else (iV k aG).bind fun r6=>
 some r6:=by kernel_rfl
theorem pz (k:Nat) (oQ pY):bS (k+1) oQ pY =
 if (((List.length oQ:Nat):Int):Int) ≠ ((List.length pY:Nat):Int) then
 some false
 else bS.l0 k k oQ pY ((List.length oQ:Nat):Int) 0:=by kernel_rfl
theorem bS.aj (k m:Nat) (oQ pY kQ gH):bS.l0 k (m+1) oQ pY kQ gH =
 if (gH:Int)<kQ then
 if 0<=gH then
 if gH<((List.length oQ:Nat):Int) then
 if 0<=gH then
 if gH<((List.length pY:Nat):Int) then
 if ¬ ((((rd gX oQ gH).1:Int)=(rd gX pY gH).1)/\((((rd gX oQ gH).2.1:Int)=(rd gX pY gH).2.1)/\((((rd gX oQ gH).2.2.1:Int)=(rd gX pY gH).2.2.1)/\((((rd gX oQ gH).2.2.2.1:Int)=(rd gX pY gH).2.2.2.1)/\(((rd gX oQ gH).2.2.2.2.1:Int)=(rd gX pY gH).2.2.2.2.1))))) then
 some false
 else bS.l0 k m oQ pY kQ (IntKind.wrap .i64 (gH+1)) else none else none else none else none
 else some true:=by kernel_rfl
theorem mq (k:Nat) (x_0):cmp_isNaN_int (k+1) x_0 =
 some (decide ((x_0:Int) ≠ x_0)):=by kernel_rfl
theorem vI (k:Nat) (p_0 a_1 a_2 Yh):tK (k+1) p_0 a_1 a_2 Yh =
 if (p_0.1:Int)=a_1 then
 (jZ k p_0 a_2 (IntKind.wrap .i64 (Yh+1))).bind fun r1=>
 some (decide (r1=true))
 else some false:=by kernel_rfl
theorem NY (k:Nat) (KN):Fw (k+1) KN =
 (gq k KN.1 0 2000).bind fun r1=>
 if r1=true then
 (gq k KN.2.1 1 96).bind fun r2=>
 if r2=true then
 (gq k KN.2.2.1 21 108).bind fun r3=>
 if r3=true then
 (gq k KN.2.2.2.1 1 4).bind fun r4=>
 some (decide (r4=true))
 else some false
 else some false
 else some false:=by kernel_rfl
theorem FL (k:Nat) (a_0 b_1):um (k+1) a_0 b_1 =
 if (a_0.1:Int) ≠ b_1.1 then
 some (decide ((a_0.1:Int)<b_1.1))
 else if (a_0.2.2.2.1:Int) ≠ b_1.2.2.2.1 then
 some (decide ((a_0.2.2.2.1:Int)<b_1.2.2.2.1))
 else some (decide ((a_0.2.2.1:Int)<b_1.2.2.1)):=by kernel_rfl
theorem EB (k:Nat) (a_0 b_1):wM (k+1) a_0 b_1 =
 if (a_0.1:Int)<b_1.1 then
 some true
 else if (a_0.1:Int)=b_1.1 then
 some (decide ((a_0.2.1:Int)<b_1.2.1))
 else some false:=by kernel_rfl
theorem Di (k:Nat) (aG):aM (k+1) aG =
 aM.l0 k k aG 0:=by kernel_rfl
theorem aM.aj (k m:Nat) (aG iW):aM.l0 k (m+1) aG iW =
 if (iW:Int)<((List.length aG:Nat):Int) then
 if 0<=iW then
 if iW<((List.length aG:Nat):Int) then
 (gq k (rd dL aG iW).1 1 99).bind fun r1=>
 if ¬ (r1=true) then
 some false
 else if LT.lt (α:=Int) (rd dL aG iW).2.1 21 then
 some false
 else if LT.lt (α:=Int) (rd dL aG iW).2.2.1 (rd dL aG iW).2.1 then
 some false
 else if LT.lt (α:=Int) 108 (rd dL aG iW).2.2.1 then
 some false
 else if (0:Int)<iW then
 if 0<=(IntKind.wrap .i64 (iW - 1)) then
 if (IntKind.wrap .i64 (iW - 1))<((List.length aG:Nat):Int) then
 if LE.le (α:=Int) (rd dL aG iW).1 (rd dL aG (IntKind.wrap .i64 (iW - 1))).1 then
 some false
 else aM.l1 k k m aG iW 0 (rd dL aG iW).1 (rd dL aG iW).2.1 (rd dL aG iW).2.2.1 (rd dL aG iW).2.2.2.1 else none else none
 else aM.l1 k k m aG iW 0 (rd dL aG iW).1 (rd dL aG iW).2.1 (rd dL aG iW).2.2.1 (rd dL aG iW).2.2.2.1 else none else none
 else some (decide ((((List.length aG:Nat):Int):Int)<=8)):=by kernel_rfl
theorem aM.yA (k m m1:Nat) (aG iW vS dK dF iw lq):aM.l1 k (m+1) m1 aG iW vS dK dF iw lq =
 if (vS:Int)<((List.length lq:Nat):Int) then
 if 0<=vS then
 if vS<((List.length lq:Nat):Int) then
 (gq k (rd (.int .i64) lq vS) 1 4).bind fun r2=>
 if ¬ (r2=true) then
 some false
 else if (0:Int)<vS then
 if 0<=(IntKind.wrap .i64 (vS - 1)) then
 if (IntKind.wrap .i64 (vS - 1))<((List.length lq:Nat):Int) then
 if 0<=vS then
 if vS<((List.length lq:Nat):Int) then
 if LE.le (α:=Int) (rd (.int .i64) lq vS) (rd (.int .i64) lq (IntKind.wrap .i64 (vS - 1))) then
 some false
 else aM.l1 k m m1 aG iW (IntKind.wrap .i64 (vS+1)) dK dF iw lq else none else none else none else none
 else aM.l1 k m m1 aG iW (IntKind.wrap .i64 (vS+1)) dK dF iw lq else none else none
 else aM.l0 k m1 aG (IntKind.wrap .i64 (iW+1)):=by kernel_rfl
theorem vD (k:Nat) (p_0 l_1 lg):zu (k+1) p_0 l_1 lg =
 (iD k p_0.2.2.2.1 lg).bind fun r1=>
 if r1=true then
 (dZ k l_1).bind fun r2=>
 if r2=true then
 (gG k l_1 lg).bind fun r3=>
 (fJ k r3 p_0.2.1 p_0.2.2.1).bind fun r4=>
 some (decide (r4=true))
 else some false
 else some false:=by kernel_rfl
theorem Kc (k:Nat) (aG Dn):iD (k+1) aG Dn =
 iD.l0 k k aG Dn 0:=by kernel_rfl
theorem iD.aj (k m:Nat) (aG Dn mo):iD.l0 k (m+1) aG Dn mo =
 if (mo:Int)<((List.length aG:Nat):Int) then
 if 0<=mo then
 if mo<((List.length aG:Nat):Int) then
 if Eq (α:=Int) (rd (.int .i64) aG mo) Dn then
 some true
 else iD.l0 k m aG Dn (IntKind.wrap .i64 (mo+1)) else none else none
 else some false:=by kernel_rfl
theorem qO (k:Nat) (s_0 eG):bg (k+1) s_0 eG =
 bg.l0 k k s_0 eG ((List.length s_0:Nat):Int) 0:=by kernel_rfl
theorem bg.aj (k m:Nat) (s_0 iU dn eH):bg.l0 k (m+1) s_0 iU dn eH =
 if (eH:Int)<dn then
 if 0<=eH then
 if eH<((List.length s_0:Nat):Int) then
 (uZ k (rd aP s_0 eH) iU).bind fun r1=>
 if r1=true then
 some eH
 else bg.l0 k m s_0 iU dn (IntKind.wrap .i64 (eH+1)) else none else none
 else some (-1):=by kernel_rfl
theorem vU (k:Nat) (s_0:(List aC)) (Ej:Int) (NV:(List aC)):jE (k+1) s_0 Ej NV=(gN aP 32) (.list aP) [.give (.list aP) s_0,.val (.int .i64) Ej,.val (.list aP) NV]:=by kernel_rfl
theorem wQ (k:Nat) (s_0 v_1):bV (k+1) s_0 v_1 =
 bV.l0 k k s_0 ((List.length s_0:Nat):Int) 0 v_1.1 v_1.2.1 v_1.2.2.1 v_1.2.2.2.1:=by kernel_rfl
theorem bV.aj (k m:Nat) (s_0 dn eH dK dF iw lq):bV.l0 k (m+1) s_0 dn eH dK dF iw lq =
 if (eH:Int)<dn then
 if 0<=eH then
 if eH<((List.length s_0:Nat):Int) then
 if ((dK:Int)=(rd aP s_0 eH).1)/\(((dF:Int)=(rd aP s_0 eH).2.1)/\(((iw:Int)=(rd aP s_0 eH).2.2.1)/\((lq:Int)=(rd aP s_0 eH).2.2.2.1))) then
 some eH
 else bV.l0 k m s_0 dn (IntKind.wrap .i64 (eH+1)) dK dF iw lq else none else none
 else some (-1):=by kernel_rfl
theorem vV (k:Nat) (s_0:(List aC)) (Ej:Int) (Yi:Int):lN (k+1) s_0 Ej Yi=(kJ aP) (.list aP) [.give (.list aP) s_0,.val (.int .i64) Ej,.val (.int .i64) Yi]:=by kernel_rfl
theorem sI (k:Nat) (t_0 a_1):wN (k+1) t_0 a_1 =
 some (decide ((a_1.1:Int)<=t_0.1)):=by kernel_rfl
theorem sJ (k:Nat) (p_0 a_1):wP (k+1) p_0 a_1 =
 some (decide ((p_0.1:Int)=a_1)):=by kernel_rfl
theorem jM (k:Nat) (p_0 l_1 lg):jZ (k+1) p_0 l_1 lg =
 (cB k p_0.2.2.2.1 lg).bind fun r1=>
 if r1=true then
 (aN k l_1).bind fun r2=>
 if r2=true then
 (kg k l_1 lg).bind fun r3=>
 (bB k r3 p_0.2.1 p_0.2.2.1).bind fun r4=>
 some (decide (r4=true))
 else some false
 else some false:=by kernel_rfl
theorem Qe (k:Nat) (aG x_1):JV (k+1) aG x_1 =
 (aL k aG x_1).bind fun r1=>
 if ¬ (r1.2.1=true) then
 (qZ k aG r1.1 [x_1]).bind fun r2=>
 some r2
 else if 0<=r1.1 then
 if r1.1<((List.length aG:Nat):Int) then
 (zw k x_1 (rd gX aG r1.1)).bind fun r3=>
 if r3=true then
 if 0<=r1.1 then
 if r1.1<((List.length aG:Nat):Int) then
 some (List.set aG (Int.toNat r1.1) x_1) else none else none
 else some aG else none else none:=by kernel_rfl
theorem Hf (k:Nat) (aG bN):gG (k+1) aG bN =
 gG.l0 k k aG bN 0 []:=by kernel_rfl
theorem gG.aj (k m:Nat) (aG bN vG s0):gG.l0 k (m+1) aG bN vG s0 =
 if (vG:Int)<((List.length aG:Nat):Int) then
 if 0<=vG then
 if vG<((List.length aG:Nat):Int) then
 if Eq (α:=Int) (rd aP aG vG).2.2.2.1 bN then
 if 0<=vG then
 if vG<((List.length aG:Nat):Int) then
 if (List.length s0+List.length ([(rd aP aG vG)]:(List aC)))*32<=211106232532992 then
 gG.l0 k m aG bN (IntKind.wrap .i64 (vG+1)) (s0++([(rd aP aG vG)]:(List aC))) else none else none else none
 else gG.l0 k m aG bN (IntKind.wrap .i64 (vG+1)) s0 else none else none
 else some s0:=by kernel_rfl
theorem EC (k:Nat) (aG dX bZ):fJ (k+1) aG dX bZ =
 fJ.l0 k k aG dX bZ 0:=by kernel_rfl
theorem fJ.aj (k m:Nat) (aG dX bZ Cc):fJ.l0 k (m+1) aG dX bZ Cc =
 if (Cc:Int)<((List.length aG:Nat):Int) then
 if 0<=Cc then
 if Cc<((List.length aG:Nat):Int) then
 (gq k (rd aP aG Cc).2.2.1 dX bZ).bind fun r1=>
 if ¬ (r1=true) then
 some false
 else fJ.l0 k m aG dX bZ (IntKind.wrap .i64 (Cc+1)) else none else none
 else (dZ k aG).bind fun r2=>
 some (decide (r2=true)):=by kernel_rfl
theorem Dj (k:Nat) (Tm a_1):uZ (k+1) Tm a_1 =
 (fE k Tm a_1).bind fun r1=>
 some (decide ((0:Int)<=r1)):=by kernel_rfl
theorem rP (k:Nat) (aG dX bZ):bB (k+1) aG dX bZ =
 bB.l0 k k aG dX bZ aG ((List.length aG:Nat):Int) 0:=by kernel_rfl
theorem bB.aj (k m:Nat) (aG dX bZ jl iZ fQ):bB.l0 k (m+1) aG dX bZ jl iZ fQ =
 if (fQ:Int)<iZ then
 if 0<=fQ then
 if fQ<((List.length jl:Nat):Int) then
 (aK k (rd aP jl fQ).2.2.1 dX bZ).bind fun r1=>
 if ¬ (r1=true) then
 some false
 else bB.l0 k m aG dX bZ jl iZ (IntKind.wrap .i64 (fQ+1)) else none else none
 else (aN k aG).bind fun r2=>
 some (decide (r2=true)):=by kernel_rfl
theorem nN (k:Nat) (x_0 uL):aL (k+1) x_0 uL =
 aL.l0 k k x_0 ((List.length x_0:Nat):Int) 0 ((List.length x_0:Nat):Int) uL.1 uL.2.1 uL.2.2.1 uL.2.2.2.1 uL.2.2.2.2.1:=by kernel_rfl
theorem aL.aj (k m:Nat) (x_0 n_8 JU Lh dK dF iw lq GI):aL.l0 k (m+1) x_0 n_8 JU Lh dK dF iw lq GI =
 if (JU:Int)<Lh then
 if (1:Int)<0 then
 none
 else if 0<=(IntKind.wrap .i64 ((Int.fdiv (IntKind.wrap .u64 (IntKind.wrap .i64 (JU+Lh))) (2 ^ (min (Int.toNat 1) (IntKind.bits .u64)))))) then
 if (IntKind.wrap .i64 ((Int.fdiv (IntKind.wrap .u64 (IntKind.wrap .i64 (JU+Lh))) (2 ^ (min (Int.toNat 1) (IntKind.bits .u64))))))<((List.length x_0:Nat):Int) then
 (oC k (rd gX x_0 (IntKind.wrap .i64 ((Int.fdiv (IntKind.wrap .u64 (IntKind.wrap .i64 (JU+Lh))) (2 ^ (min (Int.toNat 1) (IntKind.bits .u64))))))) (dK,(dF,(iw,(lq,(GI,())))))).bind fun r1=>
 if (r1:Int)<0 then
 aL.l0 k m x_0 n_8 (IntKind.wrap .i64 ((IntKind.wrap .i64 ((Int.fdiv (IntKind.wrap .u64 (IntKind.wrap .i64 (JU+Lh))) (2 ^ (min (Int.toNat 1) (IntKind.bits .u64))))))+1)) Lh dK dF iw lq GI
 else aL.l0 k m x_0 n_8 JU (IntKind.wrap .i64 ((Int.fdiv (IntKind.wrap .u64 (IntKind.wrap .i64 (JU+Lh))) (2 ^ (min (Int.toNat 1) (IntKind.bits .u64)))))) dK dF iw lq GI else none else none
 else if (JU:Int)<n_8 then
 if 0<=JU then
 if JU<((List.length x_0:Nat):Int) then
 (oC k (rd gX x_0 JU) (dK,(dF,(iw,(lq,(GI,())))))).bind fun r2=>
 some (JU,(decide ((r2:Int)=0),())) else none else none
 else some (JU,(false,())):=by kernel_rfl
theorem wR (k:Nat) (s_0:(List eX)) (Ej:Int) (NV:(List eX)):qZ (k+1) s_0 Ej NV=(gN gX 40) (.list gX) [.give (.list gX) s_0,.val (.int .i64) Ej,.val (.list gX) NV]:=by kernel_rfl
theorem Hg (k:Nat) (a_0 b_1):zw (k+1) a_0 b_1 =
 (cmp_Compare_int k a_0.2.2.2.1 b_1.2.2.2.1).bind fun r1=>
 (cmp_Compare_int k a_0.2.2.2.2.1 b_1.2.2.2.2.1).bind fun r2=>
 (cmp_Compare_int k a_0.2.2.1 b_1.2.2.1).bind fun r3=>
 (aS k ([r1,r2,r3])).bind fun r4=>
 some (decide ((0:Int)<r4)):=by kernel_rfl
end Go.pK
