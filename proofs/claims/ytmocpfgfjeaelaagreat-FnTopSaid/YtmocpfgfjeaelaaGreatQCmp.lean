/- The comparison of events, as equations; printed by pe.py. No condition. -/
import Derived.Test.YtmocpfgfjeaelaaGreatEv
import Derived.Test.YtmocpfgfjeaelaaGreatProg
import Derived.KernelRfl
set_option linter.unusedVariables false
open Go Go.Flat
namespace Go.UO
abbrev aY:Ty:=.pair (.int .i64) (.pair (.int .i64) .unit)
abbrev aZ:=Int × (Int × Unit)
abbrev iB:Ty:=.pair (.int .i64) aY
abbrev gY:=Int × aZ
abbrev aP:Ty:=.pair (.int .i64) iB
abbrev aC:=Int × gY
abbrev dL:Ty:=.pair (.int .i64) (.pair (.int .i64) (.pair (.int .i64) (.pair (.list (.int .i64)) .unit)))
abbrev bT:=Int × (Int × (Int × ((List Int) × Unit)))
abbrev gX:Ty:=.pair (.int .i64) aP
abbrev eX:=Int × aC
abbrev lu:Ty:=.pair (.list aP) (.pair aY (.pair (.list aY) (.pair (.list dL) (.pair (.list (.int .i64)) (.pair (.list gX) (.pair (.list aY) aY))))))
abbrev cK:=(List aC) × (aZ × ((List aZ) × ((List bT) × ((List Int) × ((List eX) × ((List aZ) × aZ))))))
abbrev Fa:Ty:=.pair (.int .i64) (.pair (.int .i64) (.pair aP (.pair aY (.pair dL (.pair gX .unit)))))
abbrev oO:=Int × (Int × (aC × (aZ × (bT × (eX × Unit)))))
abbrev NN:Ty:=.pair (.list (.int .i64)) (.pair (.list (.int .i64)) .unit)
abbrev RP:=(List Int) × ((List Int) × Unit)
abbrev wH:Ty:=.pair (.list (.int .i64)) (.pair (.int .i64) .unit)
abbrev BZ:=(List Int) × (Int × Unit)
abbrev jY:Ty:=.pair (.list (.int .u8)) aY
abbrev iH:=(List Int) × aZ
noncomputable def C:dh:={
  P:=Go.Proofs.Tryz.prog,
  tt:=[(1,none),(2,some (.int .i64)),(3,some (.int .i64)),(4,some .bool),(5,some (.int .u8)),(6,some (.int .u8)),(9,some .str),(10,some .str),(11,some .str),(12,some (.int .u64)),(15,none),(16,none),(17,none),(21,some (.int .i32)),(22,some (.list (.int .u8))),(23,none),(24,some (.list aP)),(25,some aY),(26,some aY),(27,some (.list aY)),(28,some (.list dL)),(29,some (.list (.int .i64))),(30,some (.list gX)),(31,some (.list aY)),(32,some lu),(33,some lu),(34,some (.list Fa)),(36,none),(38,none),(39,some aP),(40,some aP),(41,some aY),(42,some aY),(43,some dL),(44,some dL),(45,some gX),(46,some gX),(47,some Fa),(48,some Fa),(49,none),(50,some (.list (.list iB))),(52,none),(53,none),(54,some aY),(55,some aY),(57,none),(58,none),(59,some NN),(60,some NN),(62,none),(64,none),(65,none),(66,none),(67,none),(69,none),(70,none),(72,none),(73,none),(75,none),(76,none),(78,none),(79,none),(81,none),(82,none),(83,none),(84,none),(85,none),(86,none),(87,some (.list aP)),(88,some aY),(89,some (.list aY)),(90,some (.list dL)),(91,some (.list gX)),(92,some (.list aY)),(93,some lu),(94,some lu),(95,some dL),(96,none),(97,none),(98,none),(99,none),(100,none),(101,none),(102,none),(103,none),(104,none),(105,none),(106,none),(107,none),(108,none),(109,none),(110,none),(112,none),(113,none),(114,none),(115,none),(116,none),(117,none),(118,none),(119,none),(120,none),(121,none),(122,none),(123,none),(124,none),(125,some (.list iB)),(127,none),(128,none),(129,none),(130,none),(131,none),(132,none),(133,none),(134,none),(135,some wH),(136,some wH),(138,none),(139,none),(140,none),(141,none),(142,none),(143,none),(144,none),(145,none),(146,none),(147,none),(148,none),(149,none),(150,none),(151,none),(152,none),(153,none),(154,none),(155,none),(157,none),(158,none),(159,none),(160,none),(162,none),(163,none),(164,none),(165,none),(166,none),(167,none),(168,none),(169,none),(170,none),(171,none),(172,none),(173,some aY),(174,some aY),(175,none),(176,none),(177,none),(178,none),(179,none),(180,none),(181,none),(182,none),(183,none),(184,none),(185,none),(186,none),(187,none),(188,none),(189,none),(190,none),(191,none),(192,none),(193,none),(194,none),(195,none),(196,none),(197,none),(198,some (.list .str)),(199,some jY),(200,some jY),(201,none),(202,none),(203,none),(204,none),(205,none),(206,none),(207,none),(208,none),(209,none),(210,none),(211,none),(212,some iB),(213,some iB),(214,none),(215,none),(216,none),(217,none),(218,none),(219,none),(221,none),(222,none),(223,none),(224,none),(225,none),(226,none),(227,none),(228,none),(229,none),(230,none),(231,some aP),(232,none),(233,some aY),(234,none),(235,some gX),(236,none),(237,some aY),(238,none),(239,none),(240,none),(241,none),(242,none),(243,none),(244,none),(245,none),(246,none),(247,none),(248,none),(249,some (.int .u64)),(250,none),(251,none),(252,none),(253,none),(254,none),(255,none),(256,none),(257,none),(258,none),(259,some (.int .i64)),(261,none),(262,none),(263,none),(264,none),(265,none),(266,some (.int .u32)),(267,none),(268,some (.int .u64)),(269,none),(270,none),(271,none),(272,none),(273,some (.int .u64)),(274,none),(275,none),(276,none),(277,none),(278,none),(279,none),(280,none),(281,none),(282,none),(283,none),(289,none),(290,some (.int .u8)),(291,some (.int .u8)),(292,none),(293,none),(294,some (.int .i32)),(295,some (.int .i32))],
  vars:=[(222,[3,6,7,8])],
  sigs:=[],
  ptrs:=[15,16,17,114,149,277,280,293],
  mono:=true }
noncomputable def fE (k:Nat) (a_0:aC) (b_1:aC):Option Int:=run C k 164 (.int .i64) [.val aP a_0,.val aP b_1]
noncomputable def cmp_Compare_int (k:Nat) (x_0:Int) (y_1:Int):Option Int:=run C k 223 (.int .i64) [.val (.int .i64) x_0,.val (.int .i64) y_1]
noncomputable def aS (k:Nat) (oq:(List Int)):Option Int:=run C k 222 (.int .i64) [.val (.list (.int .i64)) oq]
noncomputable def aS.l0 (k m:Nat) (mh:Int) (oP:(List Int)) (dn:Int) (eH:Int):Option Int:=bq C k 222 (.int .i64) [0] [.r,.r,.l,.r,.b] [] [3,6,7,8] m ⟨[.one (.cell (.int .i64 mh)),.one (.cell (.list false (.int .i64) oP)),.one (.cell (.int .i64 dn)),.one (.cell (.int .i64 eH))],[]⟩
noncomputable def cmp_isNaN_int (k:Nat) (x_0:Int):Option Bool:=run C k 254 .bool [.val (.int .i64) x_0]
theorem kK (k:Nat) (a_0 b_1):fE (k+1) a_0 b_1 =
 (cmp_Compare_int k a_0.1 b_1.1).bind fun r1=>
 (cmp_Compare_int k a_0.2.2.2.1 b_1.2.2.2.1).bind fun r2=>
 (cmp_Compare_int k a_0.2.2.1 b_1.2.2.1).bind fun r3=>
 (aS k ([r1,r2,r3])).bind fun r4=>
 some r4:=by kernel_rfl
theorem eU (k:Nat) (x_0 y_1):cmp_Compare_int (k+1) x_0 y_1 =
 (cmp_isNaN_int k x_0).bind fun r1=>
 (cmp_isNaN_int k y_1).bind fun r2=>
 if r1=true then
 if r2=true then
 some 0
 else some (-1)
 else if r2=true then
 some 1
 else if (x_0:Int)<y_1 then
 some (-1)
 else if (y_1:Int)<x_0 then
 some 1
 else some 0:=by kernel_rfl
theorem nI (k:Nat) (oq):aS (k+1) oq =
 aS.l0 k k 0 oq ((List.length oq:Nat):Int) 0:=by kernel_rfl
theorem aS.aj (k m:Nat) (mh oP dn eH):aS.l0 k (m+1) mh oP dn eH =
 if (eH:Int)<dn then
 if 0<=eH then
 if eH<((List.length oP:Nat):Int) then
 if Ne (α:=Int) (rd (.int .i64) oP eH) mh then
 some (rd (.int .i64) oP eH)
 else aS.l0 k m mh oP dn (IntKind.wrap .i64 (eH+1)) else none else none
 else some mh:=by kernel_rfl
theorem mq (k:Nat) (x_0):cmp_isNaN_int (k+1) x_0 =
 some (decide ((x_0:Int) ≠ x_0)):=by kernel_rfl
end Go.UO
