/- What impl.SeatPlayers calls, as equations; printed by pe.py. No condition. -/
import Derived.Test.YtmocpfgfjeaelaaGreatEv
import Derived.Test.YtmocpfgfjeaelaaGreatProg
import Derived.KernelRfl
set_option linter.unusedVariables false
open Go Go.Flat
namespace Go.gy
abbrev aY:Ty:=.pair (.int .i64) (.pair (.int .i64) .unit)
abbrev aZ:=Int × (Int × Unit)
abbrev iB:Ty:=.pair (.int .i64) aY
abbrev gY:=Int × aZ
abbrev aP:Ty:=.pair (.int .i64) iB
abbrev aC:=Int × gY
abbrev dL:Ty:=.pair (.int .i64) (.pair (.int .i64) (.pair (.int .i64) (.pair (.list (.int .i64)) .unit)))
abbrev bT:=Int × (Int × (Int × ((List Int) × Unit)))
abbrev gX:Ty:=.pair (.int .i64) aP
abbrev eX:=Int × aC
abbrev lu:Ty:=.pair (.list aP) (.pair aY (.pair (.list aY) (.pair (.list dL) (.pair (.list (.int .i64)) (.pair (.list gX) (.pair (.list aY) aY))))))
abbrev cK:=(List aC) × (aZ × ((List aZ) × ((List bT) × ((List Int) × ((List eX) × ((List aZ) × aZ))))))
abbrev Fa:Ty:=.pair (.int .i64) (.pair (.int .i64) (.pair aP (.pair aY (.pair dL (.pair gX .unit)))))
abbrev oO:=Int × (Int × (aC × (aZ × (bT × (eX × Unit)))))
abbrev NN:Ty:=.pair (.list (.int .i64)) (.pair (.list (.int .i64)) .unit)
abbrev RP:=(List Int) × ((List Int) × Unit)
abbrev wH:Ty:=.pair (.list (.int .i64)) (.pair (.int .i64) .unit)
abbrev BZ:=(List Int) × (Int × Unit)
abbrev jY:Ty:=.pair (.list (.int .u8)) aY
abbrev iH:=(List Int) × aZ
noncomputable def C:dh:={
  P:=Go.Proofs.Tryz.prog,
  tt:=[(1,none),(2,some (.int .i64)),(3,some (.int .i64)),(4,some .bool),(5,some (.int .u8)),(6,some (.int .u8)),(9,some .str),(10,some .str),(11,some .str),(12,some (.int .u64)),(15,none),(16,none),(17,none),(21,some (.int .i32)),(22,some (.list (.int .u8))),(23,none),(24,some (.list aP)),(25,some aY),(26,some aY),(27,some (.list aY)),(28,some (.list dL)),(29,some (.list (.int .i64))),(30,some (.list gX)),(31,some (.list aY)),(32,some lu),(33,some lu),(34,some (.list Fa)),(36,none),(38,none),(39,some aP),(40,some aP),(41,some aY),(42,some aY),(43,some dL),(44,some dL),(45,some gX),(46,some gX),(47,some Fa),(48,some Fa),(49,none),(50,some (.list (.list iB))),(52,none),(53,none),(54,some aY),(55,some aY),(57,none),(58,none),(59,some NN),(60,some NN),(62,none),(64,none),(65,none),(66,none),(67,none),(69,none),(70,none),(72,none),(73,none),(75,none),(76,none),(78,none),(79,none),(81,none),(82,none),(83,none),(84,none),(85,none),(86,none),(87,some (.list aP)),(88,some aY),(89,some (.list aY)),(90,some (.list dL)),(91,some (.list gX)),(92,some (.list aY)),(93,some lu),(94,some lu),(95,some dL),(96,none),(97,none),(98,none),(99,none),(100,none),(101,none),(102,none),(103,none),(104,none),(105,none),(106,none),(107,none),(108,none),(109,none),(110,none),(112,none),(113,none),(114,none),(115,none),(116,none),(117,none),(118,none),(119,none),(120,none),(121,none),(122,none),(123,none),(124,none),(125,some (.list iB)),(127,none),(128,none),(129,none),(130,none),(131,none),(132,none),(133,none),(134,none),(135,some wH),(136,some wH),(138,none),(139,none),(140,none),(141,none),(142,none),(143,none),(144,none),(145,none),(146,none),(147,none),(148,none),(149,none),(150,none),(151,none),(152,none),(153,none),(154,none),(155,none),(157,none),(158,none),(159,none),(160,none),(162,none),(163,none),(164,none),(165,none),(166,none),(167,none),(168,none),(169,none),(170,none),(171,none),(172,none),(173,some aY),(174,some aY),(175,none),(176,none),(177,none),(178,none),(179,none),(180,none),(181,none),(182,none),(183,none),(184,none),(185,none),(186,none),(187,none),(188,none),(189,none),(190,none),(191,none),(192,none),(193,none),(194,none),(195,none),(196,none),(197,none),(198,some (.list .str)),(199,some jY),(200,some jY),(201,none),(202,none),(203,none),(204,none),(205,none),(206,none),(207,none),(208,none),(209,none),(210,none),(211,none),(212,some iB),(213,some iB),(214,none),(215,none),(216,none),(217,none),(218,none),(219,none),(221,none),(222,none),(223,none),(224,none),(225,none),(226,none),(227,none),(228,none),(229,none),(230,none),(231,some aP),(232,none),(233,some aY),(234,none),(235,some gX),(236,none),(237,some aY),(238,none),(239,none),(240,none),(241,none),(242,none),(243,none),(244,none),(245,none),(246,none),(247,none),(248,none),(249,some (.int .u64)),(250,none),(251,none),(252,none),(253,none),(254,none),(255,none),(256,none),(257,none),(258,none),(259,some (.int .i64)),(261,none),(262,none),(263,none),(264,none),(265,none),(266,some (.int .u32)),(267,none),(268,some (.int .u64)),(269,none),(270,none),(271,none),(272,none),(273,some (.int .u64)),(274,none),(275,none),(276,none),(277,none),(278,none),(279,none),(280,none),(281,none),(282,none),(283,none),(289,none),(290,some (.int .u8)),(291,some (.int .u8)),(292,none),(293,none),(294,some (.int .i32)),(295,some (.int .i32))],
  vars:=[(59,[0,5,6,7]),(112,[0,1,7,8]),(177,[0,3,7,8,9]),(185,[0,1,5,6]),(194,[0,1,7,8]),(222,[3,6,7,8]),(227,[0,1,2,9,10,11]),(228,[0,1,2,9,10,11])],
  sigs:=[(185,{ io:=[0] })],
  ptrs:=[15,16,17,114,149,277,280,293] }
noncomputable def aR (k:Nat) (aG:(List bT)):Option Bool:=run C k 177 .bool [.val (.list dL) aG]
noncomputable def aR.l0 (k m:Nat) (aG:(List bT)) (dn:(List bT)) (eH:Int) (jl:Int) (s0:(List Int)):Option Bool:=bq C k 177 .bool [0] [.r,.r,.l,.r,.b] [] [0,3,7,8,9] m ⟨[.one (.cell (.list false dL aG)),.one (.cell (.ref 1)),.one (.cell (.list false dL dn)),.one (.cell (.int .i64 eH)),.one (.cell (.int .i64 jl))],[.arr (.int .i64) s0 .open]⟩
noncomputable def aN (k:Nat) (aG:(List aC)):Option Bool:=run C k 59 .bool [.val (.list aP) aG]
noncomputable def aN.l0 (k m:Nat) (aG:(List aC)) (pO:(List aC)) (oP:Int) (dn:Int):Option Bool:=bq C k 59 .bool [0] [.r,.l,.r,.b] [] [0,5,6,7] m ⟨[.one (.cell (.list false aP aG)),.one (.cell (.list false aP pO)),.one (.cell (.int .i64 oP)),.one (.cell (.int .i64 dn))],[]⟩
noncomputable def aK (k:Nat) (Eb:Int) (dX:Int) (bZ:Int):Option Bool:=run C k 72 .bool [.val (.int .i64) Eb,.val (.int .i64) dX,.val (.int .i64) bZ]
noncomputable def cB (k:Nat) (s_0:(List Int)) (v_1:Int):Option Bool:=run C k 178 .bool [.val (.list (.int .i64)) s_0,.val (.int .i64) v_1]
noncomputable def jZ (k:Nat) (p_0:bT) (l_1:(List aC)) (lg:Int):Option Bool:=run C k 181 .bool [.val dL p_0,.val (.list aP) l_1,.val (.int .i64) lg]
noncomputable def aW (k:Nat) (aG:(List Int)) (dX:Int) (bZ:Int):Option Bool:=run C k 227 .bool [.val (.list (.int .i64)) aG,.val (.int .i64) dX,.val (.int .i64) bZ]
noncomputable def aW.l0 (k m:Nat) (aG:(List Int)) (dX:Int) (bZ:Int) (jl:(List Int)) (iZ:Int) (fQ:Int):Option Bool:=bq C k 227 .bool [0,0,0] [.r,.l,.r,.b] [] [0,1,2,9,10,11] m ⟨[.one (.cell (.list false (.int .i64) aG)),.one (.cell (.int .i64 dX)),.one (.cell (.int .i64 bZ)),.one (.cell (.list false (.int .i64) jl)),.one (.cell (.int .i64 iZ)),.one (.cell (.int .i64 fQ))],[]⟩
noncomputable def fE (k:Nat) (a_0:aC) (b_1:aC):Option Int:=run C k 164 (.int .i64) [.val aP a_0,.val aP b_1]
noncomputable def aD (k:Nat) (s_0:(List Int)) (v_1:Int):Option Int:=run C k 112 (.int .i64) [.val (.list (.int .i64)) s_0,.val (.int .i64) v_1]
noncomputable def aD.l0 (k m:Nat) (s_0:(List Int)) (v_1:Int) (dn:Int) (eH:Int):Option Int:=bq C k 112 (.int .i64) [0,0] [.r,.l,.r,.b] [] [0,1,7,8] m ⟨[.one (.cell (.list false (.int .i64) s_0)),.one (.cell (.int .i64 v_1)),.one (.cell (.int .i64 dn)),.one (.cell (.int .i64 eH))],[]⟩
noncomputable def kg (k:Nat) (aG:(List aC)) (bN:Int):Option (List aC):=run C k 83 (.list aP) [.val (.list aP) aG,.val (.int .i64) bN]
noncomputable def bB (k:Nat) (aG:(List aC)) (dX:Int) (bZ:Int):Option Bool:=run C k 228 .bool [.val (.list aP) aG,.val (.int .i64) dX,.val (.int .i64) bZ]
noncomputable def bB.l0 (k m:Nat) (aG:(List aC)) (dX:Int) (bZ:Int) (jl:(List aC)) (iZ:Int) (fQ:Int):Option Bool:=bq C k 228 .bool [0,0,0] [.r,.l,.r,.b] [] [0,1,2,9,10,11] m ⟨[.one (.cell (.list false aP aG)),.one (.cell (.int .i64 dX)),.one (.cell (.int .i64 bZ)),.one (.cell (.list false aP jl)),.one (.cell (.int .i64 iZ)),.one (.cell (.int .i64 fQ))],[]⟩
noncomputable def cmp_Compare_int (k:Nat) (x_0:Int) (y_1:Int):Option Int:=run C k 223 (.int .i64) [.val (.int .i64) x_0,.val (.int .i64) y_1]
noncomputable def aS (k:Nat) (oq:(List Int)):Option Int:=run C k 222 (.int .i64) [.val (.list (.int .i64)) oq]
noncomputable def aS.l0 (k m:Nat) (mh:Int) (oP:(List Int)) (dn:Int) (eH:Int):Option Int:=bq C k 222 (.int .i64) [0] [.r,.r,.l,.r,.b] [] [3,6,7,8] m ⟨[.one (.cell (.int .i64 mh)),.one (.cell (.list false (.int .i64) oP)),.one (.cell (.int .i64 dn)),.one (.cell (.int .i64 eH))],[]⟩
noncomputable def bD (k:Nat) (aG:(List aC)):Option (List aC):=run C k 171 (.list aP) [.val (.list aP) aG]
noncomputable def au (k:Nat) (s_0:(List aC)) (eG:Int):Option (List aC):=run C k 185 (.list aP) [.give (.list aP) s_0,.nL 189 [.ro (.int .i64) eG]]
noncomputable def au.l0 (k m:Nat) (jK:Int) (mo:Int) (Ca:Int) (s0:(List aC)):Option (List aC):=bq C k 185 (.list aP) [0,0] [.r,.r,.r,.l,.r,.b] [] [0,1,5,6] m ⟨[.one (.cell (.ref 1)),.one (.cell (.nL 189 [.ro (.int .i64) jK])),.one (.cell (.int .i64 mo)),.one (.cell (.int .i64 Ca))],[.arr aP s0 .open]⟩
noncomputable def cmp_isNaN_int (k:Nat) (x_0:Int):Option Bool:=run C k 254 .bool [.val (.int .i64) x_0]
noncomputable def ay (k:Nat) (s_0:(List aC)) (eG:Int):Option Int:=run C k 194 (.int .i64) [.val (.list aP) s_0,.nL 189 [.ro (.int .i64) eG]]
noncomputable def ay.l0 (k m:Nat) (s_0:(List aC)) (iU:Int) (dn:Int) (eH:Int):Option Int:=bq C k 194 (.int .i64) [0,0] [.r,.l,.r,.b] [] [0,1,7,8] m ⟨[.one (.cell (.list false aP s_0)),.one (.cell (.nL 189 [.ro (.int .i64) iU])),.one (.cell (.int .i64 dn)),.one (.cell (.int .i64 eH))],[]⟩
noncomputable def jc (k:Nat) (KN:aC) (a_1:Int):Option Bool:=run C k 189 .bool [.val aP KN,.rp (.int .i64) a_1]
theorem qH (k:Nat) (aG):aR (k+1) aG =
 aR.l0 k k aG aG ((List.length aG:Nat):Int) 0 []:=by kernel_rfl
theorem aR.aj (k m:Nat) (aG dn eH jl s0):aR.l0 k (m+1) aG dn eH jl s0 =
 if (jl:Int)<eH then
 if 0<=jl then
 if jl<((List.length dn:Nat):Int) then
 (aK k (rd dL dn jl).2.1 21 (rd dL dn jl).2.2.1).bind fun r1=>
 if ¬ (r1=true) then
 some false
 else if LT.lt (α:=Int) 108 (rd dL dn jl).2.2.1 then
 some false
 else (aW k (rd dL dn jl).2.2.2.1 1 4).bind fun r2=>
 if ¬ (r2=true) then
 some false
 else if (List.length s0+List.length ([(rd dL dn jl).1]:(List Int)))*8<=211106232532992 then
 aR.l0 k m aG dn eH (IntKind.wrap .i64 (jl+1)) (s0++([(rd dL dn jl).1]:(List Int))) else none else none else none
 else if (((List.length aG:Nat):Int):Int)<=8 then
 (aW k s0 1 99).bind fun r3=>
 some (decide (r3=true))
 else some false:=by kernel_rfl
theorem uT (k:Nat) (aG):aN (k+1) aG =
 aN.l0 k k aG aG ((List.length aG:Nat):Int) 0:=by kernel_rfl
theorem aN.aj (k m:Nat) (aG pO oP dn):aN.l0 k (m+1) aG pO oP dn =
 if (dn:Int)<oP then
 if 0<=dn then
 if dn<((List.length pO:Nat):Int) then
 (aK k (rd aP pO dn).1 0 2000).bind fun r1=>
 if ¬ (r1=true) then
 some false
 else (aK k (rd aP pO dn).2.1 1 96).bind fun r2=>
 if ¬ (r2=true) then
 some false
 else (aK k (rd aP pO dn).2.2.1 21 108).bind fun r3=>
 if ¬ (r3=true) then
 some false
 else (aK k (rd aP pO dn).2.2.2.1 1 4).bind fun r4=>
 if ¬ (r4=true) then
 some false
 else if (0:Int)<dn then
 if 0<=(IntKind.wrap .i64 (dn - 1)) then
 if (IntKind.wrap .i64 (dn - 1))<((List.length aG:Nat):Int) then
 (fE k (rd aP aG (IntKind.wrap .i64 (dn - 1))) (rd aP pO dn)).bind fun r5=>
 if (0:Int)<=r5 then
 some false
 else aN.l0 k m aG pO oP (IntKind.wrap .i64 (dn+1)) else none else none
 else aN.l0 k m aG pO oP (IntKind.wrap .i64 (dn+1)) else none else none
 else some (decide ((((List.length aG:Nat):Int):Int)<=40)):=by kernel_rfl
theorem nk (k:Nat) (Eb dX bZ):aK (k+1) Eb dX bZ =
 if (dX:Int)<=Eb then
 some (decide ((Eb:Int)<=bZ))
 else some false:=by kernel_rfl
theorem jL (k:Nat) (s_0 v_1):cB (k+1) s_0 v_1 =
 (aD k s_0 v_1).bind fun r1=>
 some (decide ((0:Int)<=r1)):=by kernel_rfl
theorem jM (k:Nat) (p_0 l_1 lg):jZ (k+1) p_0 l_1 lg =
 (cB k p_0.2.2.2.1 lg).bind fun r1=>
 if r1=true then
 (aN k l_1).bind fun r2=>
 if r2=true then
 (kg k l_1 lg).bind fun r3=>
 (bB k r3 p_0.2.1 p_0.2.2.1).bind fun r4=>
 some (decide (r4=true))
 else some false
 else some false:=by kernel_rfl
theorem rO (k:Nat) (aG dX bZ):aW (k+1) aG dX bZ =
 aW.l0 k k aG dX bZ aG ((List.length aG:Nat):Int) 0:=by kernel_rfl
theorem aW.aj (k m:Nat) (aG dX bZ jl iZ fQ):aW.l0 k (m+1) aG dX bZ jl iZ fQ =
 if (fQ:Int)<iZ then
 if 0<=fQ then
 if fQ<((List.length jl:Nat):Int) then
 (aK k (rd (.int .i64) jl fQ) dX bZ).bind fun r1=>
 if ¬ (r1=true) then
 some false
 else if (0:Int)<fQ then
 if 0<=(IntKind.wrap .i64 (fQ - 1)) then
 if (IntKind.wrap .i64 (fQ - 1))<((List.length aG:Nat):Int) then
 if LE.le (α:=Int) (rd (.int .i64) jl fQ) (rd (.int .i64) aG (IntKind.wrap .i64 (fQ - 1))) then
 some false
 else aW.l0 k m aG dX bZ jl iZ (IntKind.wrap .i64 (fQ+1)) else none else none
 else aW.l0 k m aG dX bZ jl iZ (IntKind.wrap .i64 (fQ+1)) else none else none
 else some true:=by kernel_rfl
theorem kK (k:Nat) (a_0 b_1):fE (k+1) a_0 b_1 =
 (cmp_Compare_int k a_0.1 b_1.1).bind fun r1=>
 (cmp_Compare_int k a_0.2.2.2.1 b_1.2.2.2.1).bind fun r2=>
 (cmp_Compare_int k a_0.2.2.1 b_1.2.2.1).bind fun r3=>
 (aS k ([r1,r2,r3])).bind fun r4=>
 some r4:=by kernel_rfl
theorem ji (k:Nat) (s_0 v_1):aD (k+1) s_0 v_1 =
 aD.l0 k k s_0 v_1 ((List.length s_0:Nat):Int) 0:=by kernel_rfl
theorem aD.aj (k m:Nat) (s_0 v_1 dn eH):aD.l0 k (m+1) s_0 v_1 dn eH =
 if (eH:Int)<dn then
 if 0<=eH then
 if eH<((List.length s_0:Nat):Int) then
 if Eq (α:=Int) v_1 (rd (.int .i64) s_0 eH) then
 some eH
 else aD.l0 k m s_0 v_1 dn (IntKind.wrap .i64 (eH+1)) else none else none
 else some (-1):=by kernel_rfl
theorem uU (k:Nat) (aG bN):kg (k+1) aG bN =
 (bD k aG).bind fun r1=>
 (au k r1 bN).bind fun r2=>
 some r2:=by kernel_rfl
theorem rP (k:Nat) (aG dX bZ):bB (k+1) aG dX bZ =
 bB.l0 k k aG dX bZ aG ((List.length aG:Nat):Int) 0:=by kernel_rfl
theorem bB.aj (k m:Nat) (aG dX bZ jl iZ fQ):bB.l0 k (m+1) aG dX bZ jl iZ fQ =
 if (fQ:Int)<iZ then
 if 0<=fQ then
 if fQ<((List.length jl:Nat):Int) then
 (aK k (rd aP jl fQ).2.2.1 dX bZ).bind fun r1=>
 if ¬ (r1=true) then
 some false
 else bB.l0 k m aG dX bZ jl iZ (IntKind.wrap .i64 (fQ+1)) else none else none
 else (aN k aG).bind fun r2=>
 some (decide (r2=true)):=by kernel_rfl
theorem eU (k:Nat) (x_0 y_1):cmp_Compare_int (k+1) x_0 y_1 =
 (cmp_isNaN_int k x_0).bind fun r1=>
 (cmp_isNaN_int k y_1).bind fun r2=>
 if r1=true then
 if r2=true then
 some 0
 else some (-1)
 else if r2=true then
 some 1
 else if (x_0:Int)<y_1 then
 some (-1)
 else if (y_1:Int)<x_0 then
 some 1
 else some 0:=by kernel_rfl
theorem nI (k:Nat) (oq):aS (k+1) oq =
 aS.l0 k k 0 oq ((List.length oq:Nat):Int) 0:=by kernel_rfl
theorem aS.aj (k m:Nat) (mh oP dn eH):aS.l0 k (m+1) mh oP dn eH =
 if (eH:Int)<dn then
 if 0<=eH then
 if eH<((List.length oP:Nat):Int) then
 if Ne (α:=Int) (rd (.int .i64) oP eH) mh then
 some (rd (.int .i64) oP eH)
 else aS.l0 k m mh oP dn (IntKind.wrap .i64 (eH+1)) else none else none
 else some mh:=by kernel_rfl
theorem lH (k:Nat) (aG):bD (k+1) aG =
 if (List.length ([]:(List aC))+List.length aG)*32<=211106232532992 then
 some (([]:(List aC))++aG) else none:=by kernel_rfl
theorem iI (k:Nat) (s_0 eG):au (k+1) s_0 eG =
 (ay k s_0 eG).bind fun r1=>
 if (r1:Int)=(-1) then
 some s_0
 else au.l0 k k eG r1 (IntKind.wrap .i64 (r1+1)) s_0:=by kernel_rfl
theorem au.aj (k m:Nat) (jK mo Ca s0):au.l0 k (m+1) jK mo Ca s0 =
 if (Ca:Int)<((List.length s0:Nat):Int) then
 if 0<=Ca then
 if Ca<((List.length s0:Nat):Int) then
 (jc k (rd aP s0 Ca) jK).bind fun r2=>
 if ¬ (r2=true) then
 if 0<=mo then
 if mo<((List.length s0:Nat):Int) then
 au.l0 k m jK (IntKind.wrap .i64 (mo+1)) (IntKind.wrap .i64 (Ca+1)) (List.set s0 (Int.toNat mo) (rd aP s0 Ca)) else none else none
 else au.l0 k m jK mo (IntKind.wrap .i64 (Ca+1)) s0 else none else none
 else if 0<=mo then
 if mo<=((List.length s0:Nat):Int) then
 if 0<=mo then
 if mo<=((List.length (List.take (Int.toNat mo) s0++List.replicate ((Int.toNat ((List.length s0:Nat):Int)) - (Int.toNat mo)) (Ty.dflt aP)++List.drop ((Int.toNat mo)+((Int.toNat ((List.length s0:Nat):Int)) - (Int.toNat mo))) s0):Nat):Int) then
 some (List.take ((Int.toNat mo) - (Int.toNat 0)) (List.drop (Int.toNat 0) (List.take (Int.toNat mo) s0++List.replicate ((Int.toNat ((List.length s0:Nat):Int)) - (Int.toNat mo)) (Ty.dflt aP)++List.drop ((Int.toNat mo)+((Int.toNat ((List.length s0:Nat):Int)) - (Int.toNat mo))) s0))) else none else none else none else none:=by kernel_rfl
theorem mq (k:Nat) (x_0):cmp_isNaN_int (k+1) x_0 =
 some (decide ((x_0:Int) ≠ x_0)):=by kernel_rfl
theorem iP (k:Nat) (s_0 eG):ay (k+1) s_0 eG =
 ay.l0 k k s_0 eG ((List.length s_0:Nat):Int) 0:=by kernel_rfl
theorem ay.aj (k m:Nat) (s_0 iU dn eH):ay.l0 k (m+1) s_0 iU dn eH =
 if (eH:Int)<dn then
 if 0<=eH then
 if eH<((List.length s_0:Nat):Int) then
 (jc k (rd aP s_0 eH) iU).bind fun r1=>
 if r1=true then
 some eH
 else ay.l0 k m s_0 iU dn (IntKind.wrap .i64 (eH+1)) else none else none
 else some (-1):=by kernel_rfl
theorem rQ (k:Nat) (KN a_1):jc (k+1) KN a_1 =
 some (decide ((KN.2.2.2.1:Int) ≠ a_1)):=by kernel_rfl
end Go.gy
