/- A part of the proof that GcRoom returns true: text Sh2. -/
import Derived.Test.YtfhilpdbmfbbdaaGreatDoorCalm
namespace Ev
open Go Go.Proofs
noncomputable section
variable (F G : Orac) (j J : KJ) (H K : Heap) (k : KR) (q : KQ) (kh : KH) (l : LA) (n m N n1 n2 : Nat) (a b c d e f g h i o p r s t u v w x y z A B C D E L M O P Q R S T U V W X Y Z : AV)
def s171_0:KR:=fun f g h=>nilK a (faddrK 1 a fun i=>storeK 1 g i c fun _ c=>nilK a (faddrK 2 a fun a=>storeK 1 c a f fun _ a=>loadK H d fun c=>ifB (sameF 8 c e) (at_ K n fun c=>Blk.ckDead c (AV.ckOk b (AV.ckOk (I 0) (k (.tup [b,I 0]) a h))))))
def s171_1:KR:=fun c d e=>nilK a (faddrK 2 a fun f=>loadK d f fun g=>forceN (Nat.add n 1) fun h=>AV.ckOne b (newK [b] d h fun i=>at_ i h fun i=>hput d h i fun i=>mR (s171_0 H d k h a b c f g) (appK 1 i e g (.sl h 0 1 (.known 1)))))
def s171_2:KJ:=fun _ d e=>forceN (Nat.add e 2) fun f=>nilK a (faddrK 1 a fun g=>loadK d g fun g=>loadNK 4 d c fun c=>forceN (Nat.add e 0) fun h=>Ev.layK 0 4 true c [I 0,I 0,.str 0 0,.nils] fun c=>newK c d h fun c=>at_ c h fun c=>hput d h c fun c=>mR (s171_1 d k e a b) (appK 4 c f g (.sl h 0 1 (.known 1))))
def s171_3:KQ:=fun c=>mJ (s171_2 k a c b) fun a=>faddrK 0 b fun d=>loadK H d fun d=>eqlI d (I 0) fun d=>cB d (faddrK 1 b fun b=>storeK 1 H b c fun _ b=>a [] b n) (a [] H n)
def s171_4:KJ:=fun _ c d=>nilK a (faddrK 1 a fun e=>loadK c e fun e=>mQ (s171_3 c k d a b) (lenSl e))
def s171_5:KQ:=fun a=>geqI a (I 8000) fun a=>cB a false (j [] H n)
def s171(_:Nat):Hand:=fun a b c d e f=>arg1 c fun c g=>arg1 g fun g h=>arg1 h fun h i=>arg0 i (boxE h d e fun d h=>forceN (Nat.succ e) fun e=>mJ (s171_4 f c d) fun d=>a 27 [c] h e fun e f h=>notB e fun e=>cB e false (callV a b g [] f h fun a b e=>notB a fun a=>cB a false (nilK c (faddrK 1 c fun a=>loadK b a fun a=>mQ (s171_5 d b e) (lenSl a)))))
theorem h171:HO 171 s171:=hO 3 (T2 L0 (T2 (.one [] (T2 L0 (T2 .stop (T2 L0 (T2 .stop (T2 L0 (T2 .stop L0))))))) (T2 L0 (.join [] (T2 L0 (T2 L0 L0)) (T2 L0 (T2 L0 L0)))))) Tryz.func171 Tryz.call171 fun N F G l H n k=>by kernel_rfl
def s172_0:KR:=fun b c d=>pickK a b fF fun a=>k a c d
def s172_1:KR:=fun b c d=>jR a c d (s172_0 k a) fun a=>geqI b (I 0) fun b=>a b c d
def s172(_:Nat):Hand:=fun a _ b c d e=>arg1 b fun b f=>arg1 f fun f g=>arg0 g (loadK c b fun b=>a 173 [b] c d fun a b c=>jR a b c (s172_1 e a) fun a=>loadK b f fun d=>a d b c)
theorem h172:HO 172 s172:=hO 2 (T2 L0 (T2 L0 L0)) Tryz.func172 Tryz.call172 fun N F G l H n k=>by kernel_rfl
def s173_0:KR:=fun b c d=>pickK a fT b fun a=>k a c d
def s173_1:KR:=fun b c d=>jRn a c d (s173_0 k a) fun a=>strB .eql b (.str 4 1953656688) fun b=>a b c d
def s173_2:KR:=fun c d e=>pickK b fT c fun b=>jRn b d e (s173_1 k b) fun b=>b a d e
def s173_3:KR:=fun c d e=>jRn b d e (s173_2 k a b) fun a=>strB .eql c (.str 4 1819043171) fun b=>a b d e
def s173(_:Nat):Hand:=fun _ _ a b c d=>arg1 a fun a e=>arg0 e (strB .eql a (.str 4 1668248176) fun e=>jRn e b c (s173_3 d a e) fun d=>d a b c)
theorem h173:HO 173 s173:=hO 1 (T2 L0 (T2 L0 L0)) Tryz.func173 Tryz.call173 fun N F G l H n k=>by kernel_rfl
def s174(_:Nat):Hand:=fun _ _ a b c d=>arg0 a (d fT b c)
theorem h174:HO 174 s174:=hO 0 (T2 L0 (T2 L0 L0)) Tryz.func174 Tryz.call174 fun N F G l H n k=>by kernel_rfl
def s175(_:Nat):Hand:=fun a _ b c d e=>arg1 b fun b f=>arg0 f (loadK c b fun b=>a 160 [b] c d e)
theorem h175:HO 175 s175:=hO 1 (T2 L0 (T2 L0 L0)) Tryz.func175 Tryz.call175 fun N F G l H n k=>by kernel_rfl
def s176(_:Nat):Hand:=fun a _ b c d e=>arg1 b fun b f=>arg1 f fun f g=>arg0 g (cB fF false (a 247 [b,f] c d fun a b c=>extK 0 a fun d=>extK 1 a fun a=>AV.ckOk d (AV.ckOk a (e (.tup [d,a]) b c))))
theorem h176:HO 176 s176:=hO 2 (T2 L0 (T2 (T2 .stop L0) (T2 L0 (T2 L0 L0)))) Tryz.func176 Tryz.call176 fun N F G l H n k=>by kernel_rfl
def s178(_:Nat):Hand:=fun _ _ a b c d=>arg1 a fun a e=>arg0 e (boxE a b c fun a b=>forceN (Nat.succ c) fun c=>AV.ckOk a (d (.fn (.func 248) [] [a]) b c))
theorem h178:HO 178 s178:=hO 1 (T2 L0 (T2 L0 L0)) Tryz.func178 Tryz.call178 fun N F G l H n k=>by kernel_rfl
def s179(_:Nat):Hand:=fun a _ b c d e=>arg1 b fun b f=>arg1 f fun f g=>arg0 g (nilK b (faddrK 0 b fun b=>loadK c b fun b=>a 8 [b] c d fun a b c=>addI a f fun a=>leqI a (I 8000) fun a=>e a b c))
theorem h179:HO 179 s179:=hO 2 (T2 L0 (T2 L0 L0)) Tryz.func179 Tryz.call179 fun N F G l H n k=>by kernel_rfl
def s180(_:Nat):Hand:=fun a _ b c d e=>arg1 b fun b f=>arg1 f fun f g=>arg1 g fun g h=>arg0 h (AV.ckOne f (AV.ckOne g (newK [f,g] c d fun c=>forceN (Nat.succ d) fun h=>a 36 [b,.sl d 0 2 (.known 2)] c h fun c d h=>neqI c (I 0) fun c=>cB c false (a 249 [b,f,g] d h fun c d f=>extK 0 c fun g=>extK 1 c fun c=>notB c fun c=>cB c false (a 251 [b,g] d f fun a b c=>AV.ckOk a (AV.ckOk (I 0) (e (.tup [a,I 0]) b c)))))))
theorem h180:HO 180 s180:=hO 3 (T2 L0 (T2 (T2 L0 (T2 L0 (T2 .stop L0))) (T2 L0 (T2 (T2 L0 (T2 .stop L0)) (T2 L0 L0))))) Tryz.func180 Tryz.call180 fun N F G l H n k=>by kernel_rfl
def s181(_:Nat):Hand:=fun a b c d e f=>arg1 c fun c g=>arg1 g fun g h=>arg1 h fun h i=>arg0 i (newK [I 0,I 0] d e fun d=>forceN (Nat.succ e) fun i=>a 179 [c,I 1] d i fun d i j=>notB d fun d=>cB d false (callV a b h [] i j fun b d h=>extK 0 b fun i=>extK 1 b fun _=>a 80 [c,g,i] d h fun a b c=>storeK 2 b (.ptr e 0) a fun _ a=>loadNK 2 a (.ptr e 0) fun b=>f b a c))
theorem h181:HO 181 s181:=hO 3 (T2 L0 (T2 (T2 L0 (T2 .stop L0)) (T2 L0 (T2 L0 L0)))) Tryz.func181 Tryz.call181 fun N F G l H n k=>by kernel_rfl
def s182(_:Nat):Hand:=fun a _ b c d e=>arg1 b fun b f=>arg1 f fun f g=>arg0 g (loadK c b fun b=>nilK b (faddrK 0 b fun b=>loadK c b fun b=>loadK c f fun f=>a 183 [b,f] c d fun a b c=>extK 0 a fun d=>extK 1 a fun a=>AV.ckOk d (AV.ckOk a (e (.tup [d,a]) b c))))
theorem h182:HO 182 s182:=hO 2 (T2 L0 (T2 L0 L0)) Tryz.func182 Tryz.call182 fun N F G l H n k=>by kernel_rfl
def s183(_:Nat):Hand:=fun a _ b c d e=>arg1 b fun b f=>arg1 f fun f g=>arg0 g (boxE f c d fun c f=>forceN (Nat.succ d) fun d=>AV.ckOk c (loadK f c fun g=>AV.ckOne (I 1) (AV.ckOne g (a 171 [b,.fn (.func 252) [] [c],.agg [I 1,g,.str 0 0,.nils]] f d fun a b c=>extK 0 a fun d=>extK 1 a fun a=>AV.ckOk d (AV.ckOk a (e (.tup [d,a]) b c))))))
theorem h183:HO 183 s183:=hO 2 (T2 L0 (T2 L0 L0)) Tryz.func183 Tryz.call183 fun N F G l H n k=>by kernel_rfl
def s184(_:Nat):Hand:=fun a _ b c d e=>arg1 b fun b f=>arg1 f fun f g=>arg0 g (loadK c b fun b=>nilK b (faddrK 0 b fun b=>loadK c b fun b=>loadK c f fun f=>a 71 [b,f] c d fun a b c=>extK 0 a fun d=>extK 1 a fun a=>AV.ckOk d (AV.ckOk a (e (.tup [d,a]) b c))))
theorem h184:HO 184 s184:=hO 2 (T2 L0 (T2 L0 L0)) Tryz.func184 Tryz.call184 fun N F G l H n k=>by kernel_rfl
def s185(_:Nat):Hand:=fun a _ b c d e=>arg1 b fun b f=>arg1 f fun f g=>arg1 g fun g h=>arg0 h (loadK c b fun b=>nilK b (faddrK 0 b fun b=>loadK c b fun b=>loadK c f fun f=>loadK c g fun g=>a 186 [b,f,g] c d fun a b c=>extK 0 a fun d=>extK 1 a fun a=>AV.ckOk d (AV.ckOk a (e (.tup [d,a]) b c))))
theorem h185:HO 185 s185:=hO 3 (T2 L0 (T2 L0 L0)) Tryz.func185 Tryz.call185 fun N F G l H n k=>by kernel_rfl
def s186(_:Nat):Hand:=fun a _ b c d e=>arg1 b fun b f=>arg1 f fun f g=>arg1 g fun g h=>arg0 h (boxE b c d fun b c=>forceN (Nat.succ d) fun d=>boxE f c d fun c f=>forceN (Nat.succ d) fun d=>boxE g f d fun f g=>forceN (Nat.succ d) fun d=>AV.ckOk c (AV.ckOk f (AV.ckOk b (loadK g b fun h=>loadK g c fun i=>loadK g f fun j=>a 67 [j] g d fun d g j=>AV.ckOne (I 3) (AV.ckOne i (AV.ckOne d (a 171 [h,.fn (.func 253) [] [c,f,b],.agg [I 3,I 0,i,d]] g j fun a d f=>extK 0 a fun j=>extK 1 a fun a=>loadK g b fun b=>ifB (sameF 8 b h) (loadK g c fun b=>ifB (sameF 8 b i) (AV.ckOk j (AV.ckOk a (e (.tup [j,a]) d f)))))))))))
theorem h186:HO 186 s186:=hO 3 (T2 L0 (T2 L0 (T2 L0 L0))) Tryz.func186 Tryz.call186 fun N F G l H n k=>by kernel_rfl
def s187_0:KQ:=fun c=>addI (I 10) c fun c=>subI c (I 1) fun c=>F 255 [a,b,.str 4 1668248176,c] H n fun a b c=>storeK 2 b (.ptr m 0) a fun _ a=>loadNK 2 a (.ptr m 0) fun b=>k b a c
def s187_1:KR:=fun c d e=>nilK a (faddrK 2 a fun f=>storeK 1 d f c fun _ c=>nilK a (faddrK 2 a fun d=>loadK c d fun d=>mQ (s187_0 F c k e n a b) (lenSl d)))
def s187(_:Nat):Hand:=fun a _ b c d e=>arg1 b fun b f=>arg1 f fun f g=>arg1 g fun g h=>arg0 h (boxE g c d fun c g=>forceN (Nat.succ d) fun d=>newK [I 0,I 0] g d fun g=>forceN (Nat.succ d) fun h=>a 179 [b,I 1] g h fun g h i=>notB g fun g=>cB g false (forceN (Nat.add i 1) fun g=>nilK b (faddrK 2 b fun j=>loadK h j fun j=>loadNK 2 h c fun c=>forceN (Nat.add i 0) fun i=>Ev.layK 0 2 true c [I 0,.nilp] fun c=>newK c h i fun c=>at_ c i fun c=>hput h i c fun c=>mR (s187_1 a e d b f) (appK 2 c g j (.sl i 0 1 (.known 1))))))
theorem h187:HO 187 s187:=hO 3 (T2 L0 (T2 (T2 L0 (T2 .stop L0)) (T2 L0 (T2 L0 L0)))) Tryz.func187 Tryz.call187 fun N F G l H n k=>by kernel_rfl
def s188_0:KJ:=fun c d e=>arg1 c fun c _=>neqI c b fun b=>cB b false (loadNK 2 d (.ptr 0 0) fun b=>storeK 2 d (.ptr n 0) b fun _ b=>loadNK 2 b (.ptr n 0) fun c=>AV.ckOk a (AV.ckOk c (k (.tup [a,c]) b e)))
def s188(_:Nat):Hand:=fun a b c d e f=>arg1 c fun c g=>arg1 g fun g h=>arg1 h fun h i=>arg1 i fun i j=>arg0 j (newK [I 0,I 0] d e fun d=>forceN (Nat.succ e) fun j=>a 256 [c,g,.str 4 1668248176] d j fun d g j=>extK 0 d fun l=>extK 1 d fun d=>newK [I 0,I 0] g j fun g=>forceN (Nat.succ j) fun m=>storeK 2 g (.ptr j 0) d fun _ d=>loadNK 2 d (.ptr j 0) fun g=>loadNK 2 d (.ptr 0 0) fun j=>eqA [0,1] .neq g j fun g=>cB g false (mJ (s188_0 f e l h) fun e=>lssI l (I 10) fun f=>cB f (a 257 [l] d m fun a b c=>e [a] b c) (nilK c (faddrK 2 c fun c=>loadK d c fun c=>subI l (I 10) fun f=>iaddrK 2 c f fun c=>loadNK 2 d c fun c=>callV a b i [c] d m fun a b c=>e [a] b c))))
theorem h188:HO 188 s188:=hO 4 (T2 L0 (T2 L0 (T2 (T2 L0 (T2 .stop L0)) (T2 L0 (.join [12] (T2 L0 (T2 L0 L0)) (T2 (T2 L0 (T2 .stop L0)) (T2 L0 L0))))))) Tryz.func188 Tryz.call188 fun N F G l H n k=>by kernel_rfl
def s189_0:KQ:=fun a=>subI a (I 1) fun a=>k a H n
def s189(_:Nat):Hand:=fun _ _ a b c d=>arg1 a fun a e=>arg1 e fun e f=>arg0 f (boxE a b c fun a b=>forceN (Nat.succ c) fun c=>loadK b e fun e=>nilK e (faddrK 0 e fun e=>loadK b e fun e=>nilK e (faddrK 0 e fun e=>faddrK 0 e fun e=>loadK b e fun e=>faddrK 0 a fun a=>loadK b a fun a=>iaddrK 6 e a fun a=>faddrK 1 a fun a=>loadK b a fun a=>mQ (s189_0 b d c) (lenSl a))))
theorem h189:HO 189 s189:=hO 2 (T2 L0 (T2 L0 L0)) Tryz.func189 Tryz.call189 fun N F G l H n k=>by kernel_rfl
def s190(_:Nat):Hand:=fun a _ b c d e=>arg1 b fun b f=>arg1 f fun f g=>arg1 g fun g h=>arg0 h (newK [I 0,I 0] c d fun c=>forceN (Nat.succ d) fun h=>mJ (fun _ _ _=>false) fun _=>eqlI f (I 0) fun f=>cB f (iaddrK 1 g (I 0) fun f=>loadK c f fun f=>a 126 [b,f] c h fun a b c=>AV.ckOne a (AV.ckOne (.int .i64 (.negSucc 0)) (storeK 2 b (.ptr d 0) (.agg [a,.int .i64 (.negSucc 0)]) fun _ a=>loadNK 2 a (.ptr d 0) fun b=>e b a c))) false)
theorem h190:HO 190 s190:=hO 3 (T2 L0 (T2 (T2 L0 (.one [] (T2 L0 (T2 (T2 L0 L0) .stop)))) .stop)) Tryz.func190 Tryz.call190 fun N F G l H n k=>by kernel_rfl
def s192(_:Nat):Hand:=fun a _ b c d e=>arg1 b fun b f=>arg1 f fun f g=>arg1 g fun g h=>arg0 h (newK [I 0,I 0] c d fun c=>forceN (Nat.succ d) fun h=>cB g (a 85 [b,f,.str 4 1702195828] c h fun a b c=>storeK 2 b (.ptr d 0) a fun _ a=>loadNK 2 a (.ptr d 0) fun b=>e b a c) (a 85 [b,f,.str 5 435728179558] c h fun a b c=>storeK 2 b (.ptr d 0) a fun _ a=>loadNK 2 a (.ptr d 0) fun b=>e b a c))
theorem h192:HO 192 s192:=hO 3 (T2 L0 (T2 (T2 L0 (T2 (T2 L0 L0) L0)) (T2 L0 L0))) Tryz.func192 Tryz.call192 fun N F G l H n k=>by kernel_rfl
def s193(_:Nat):Hand:=fun _ _ a b c d=>arg1 a fun a e=>arg1 e fun e f=>arg1 f fun f g=>arg0 g (mJ (fun _ _ _=>false) fun _=>strB .eql a (.str 1 43) fun g=>cB g false (strB .eql a (.str 1 45) fun g=>cB g (subI e f fun a=>AV.ckOk a (AV.ckOk fF (AV.ckOk fT (d (.tup [a,.bool false,.bool true]) b c)))) (strB .eql a (.str 1 42) fun g=>cB g false (strB .eql a (.str 1 60) fun g=>cB g false (strB .eql a (.str 2 15421) fun g=>cB g false (strB .eql a (.str 1 62) fun a=>cB a (gtrI e f fun a=>AV.ckOk (I 0) (AV.ckOk a (AV.ckOk fF (d (.tup [I 0,a,.bool false]) b c)))) false))))))
theorem h193:HO 193 s193:=hO 3 (T2 L0 (T2 (T2 L0 (.one [] (T2 L0 (T2 .stop (T2 L0 (T2 (T2 L0 L0) (T2 L0 (T2 .stop (T2 L0 (T2 .stop (T2 L0 (T2 .stop (T2 L0 (T2 (T2 L0 L0) .stop)))))))))))))) .stop)) Tryz.func193 Tryz.call193 fun N F G l H n k=>by kernel_rfl
def s194(_:Nat):Hand:=fun a _ b c d e=>arg1 b fun b f=>arg1 f fun f g=>arg0 g (a 263 [b,f] c d fun a c d=>eqlI a (.int .i64 (.negSucc 0)) fun a=>cB a (e b c d) false)
theorem h194:HO 194 s194:=hO 2 (T2 L0 (T2 L0 (T2 (T2 L0 (T2 (T2 L0 L0) .stop)) .stop))) Tryz.func194 Tryz.call194 fun N F G l H n k=>by kernel_rfl
def s198(_:Nat):Hand:=fun a _ b c d e=>arg1 b fun b f=>arg1 f fun f g=>arg0 g (AV.ckOk f (a 64 [b,.fn (.func 199) [] [f]] c d e))
theorem h198:HO 198 s198:=hO 2 (T2 L0 (T2 L0 L0)) Tryz.func198 Tryz.call198 fun N F G l H n k=>by kernel_rfl
def s199(_:Nat):Hand:=fun a _ b c d e=>arg1 b fun b f=>arg1 f fun f g=>arg0 g (loadK c f fun f=>a 200 [f,b] c d fun a b c=>extK 0 a fun _=>extK 1 a fun a=>notB a fun a=>e a b c)
theorem h199:HO 199 s199:=hO 2 (T2 L0 (T2 L0 (T2 L0 L0))) Tryz.func199 Tryz.call199 fun N F G l H n k=>by kernel_rfl
def s200_0:KR:=fun c d e=>pickK a c fF fun a=>AV.ckOk b (AV.ckOk a (k (.tup [b,a]) d e))
def s200_1:KR:=fun d e f=>jR a e f (s200_0 k a c) fun a=>pickK b fT d fun b=>a b e f
def s200_2:KR:=fun e f g=>jRn b f g (s200_1 k a b d) fun a=>pickK c e fF fun b=>a b f g
def s200_3:KR:=fun e f g=>jR c f g (s200_2 k a b c d) (F 266 [e] f g)
def s200_4:KR:=fun e f g=>jR e f g (s200_3 F k a c e d) fun a=>a b f g
def s200_5:KR:=fun e f g=>jRn c f g (s200_4 F k a b c d) fun a=>a e f g
def s200_6:KR:=fun e f g=>jRn c f g (s200_5 F k a b c d) (F 266 [e] f g)
def s200_7:KR:=fun e f g=>jRn c f g (s200_6 F k a b c d) fun a=>loadK f e fun b=>a b f g
def s200_8:KR:=fun f g h=>jRn c g h (s200_7 F k a b c e) fun a=>iaddrK 1 d f fun b=>a b g h
def s200_9:KR:=fun e f g=>jRn c f g (s200_8 F k a b c e d) fun a=>a d f g
def s200_10:KR:=fun e f g=>jRn e f g (s200_9 F k b c e d) fun b=>b a f g
def s200_11:KR:=fun e f g=>jR b f g (s200_10 F k a b c d) fun a=>a e f g
def s200_12:KR:=fun f g h=>jR b g h (s200_11 F k a b c e) fun a=>eqlI d f fun b=>a b g h
def s200_13:KR:=fun e f g=>jR b f g (s200_12 F k a b c e d) fun a=>a c f g
def s200_14:KR:=fun e f g=>jR b f g (s200_13 F k a b c d) fun a=>loadK f e fun b=>a b f g
def s200_15:KR:=fun f g h=>jR b g h (s200_14 F k a b d e) fun a=>iaddrK 1 c f fun b=>a b g h
def s200_16:KR:=fun e f g=>jR b f g (s200_15 F k a b e c d) fun a=>a d f g
def s200_17:KJ:=fun d e f=>arg1 d fun d _=>lssI d c fun c=>jR c e f (s200_16 F k a c b d) fun b=>b a e f
def s200_18:KJ:=fun a b c=>arg1 a fun a d=>arg1 d fun d _=>j [a,d] b c
def s200_19:KJ→KJ:=fun c d e f=>arg1 d fun d g=>arg1 g fun g _=>lssI d g fun h=>cB h (mJ (s200_18 c) fun c=>addI d g fun h=>convI .u64 h fun h=>shiftE .shr h (.int .u64 (.ofNat 1)) fun h=>convI .i64 h fun h=>iaddrK 1 a h fun a=>loadK e a fun a=>F 265 [a,b] e f fun a b e=>cB a (addI h (I 1) fun a=>c [a,g] b e) (c [d,h] b e)) (j [d] e f)
def s200_20:KQ:=fun c=>mJ (s200_17 F k a b c) fun d=>iterN n (s200_19 F d a b) [I 0,c] H m
def s200(a:Nat):Hand:=fun b _ c d e f=>arg1 c fun c g=>arg1 g fun g h=>arg0 h (mQ (s200_20 b d f a e c g) (lenSl c))
theorem h200:HO 200 s200:=hO 2 (T2 L0 (T2 L0 (T2 L0 (T2 (.one [7] (.one [7,8] (T2 (T2 L0 (T2 L0 L0)) (.one [7,8] (T2 L0 (T2 L0 (T2 L0 L0))))))) (T2 L0 L0))))) Tryz.func200 Tryz.call200 fun N F G l H n k=>by kernel_rfl
def s201(_:Nat):Hand:=fun a b c d e f=>arg1 c fun c g=>arg1 g fun g h=>arg1 h fun h i=>arg0 i (loadK d g fun i=>loadK d h fun h=>a 122 [h,c] d e fun c d e=>callV a b i [c] d e fun a b c=>loadK d g fun d=>ifB (sameF 8 d i) (f a b c))
theorem h201:HO 201 s201:=hO 3 (T2 L0 (T2 L0 L0)) Tryz.func201 Tryz.call201 fun N F G l H n k=>by kernel_rfl
def s202_0:KR:=fun b c d=>pickK a b fF fun a=>k a c d
def s202_1:KR:=fun b c d=>jR a c d (s202_0 k a) fun a=>notB b fun b=>a b c d
def s202_2:KR:=fun c d e=>jR a d e (s202_1 k a) (F 267 [b,c] d e)
def s202_3:KR:=fun c d e=>jR b d e (s202_2 F k b c) fun b=>AV.ckOk a (b (.fn (.func 268) [] [a]) d e)
def s202_4:KR:=fun c d e=>jR b d e (s202_3 F k a b) fun a=>loadK d c fun b=>a b d e
def s202_5:KR:=fun c d e=>pickK b c fF fun b=>jR b d e (s202_4 F k a b) fun b=>faddrK 0 a fun a=>b a d e
def s202_6:KR:=fun d e f=>jR b e f (s202_5 F k a b) fun a=>lssI c d fun b=>a b e f
def s202_7:KR:=fun d e f=>jR b e f (s202_6 F k a b c) fun a=>mQ (fun b=>a b e f) (lenSl d)
def s202_8:KR:=fun d e f=>jR b e f (s202_7 F k a b c) fun a=>loadK e d fun b=>a b e f
def s202_9:KR:=fun c d e=>jR b d e (s202_8 F k a b c) fun b=>faddrK 0 a fun a=>b a d e
def s202_10:KR:=fun c d e=>jR b d e (s202_9 F k a b) fun a=>loadK d c fun b=>a b d e
def s202_11:KR:=fun c d e=>pickK b c fF fun b=>jR b d e (s202_10 F k a b) fun b=>faddrK 1 a fun a=>b a d e
def s202_12:KR:=fun c d e=>jR b d e (s202_11 F k a b) fun a=>geqI c (I 0) fun b=>a b d e
def s202_13:KR:=fun c d e=>jR b d e (s202_12 F k a b) fun a=>loadK d c fun b=>a b d e
def s202_14:KR:=fun c d e=>pickK b c fF fun b=>jR b d e (s202_13 F k a b) fun b=>faddrK 1 a fun a=>b a d e
def s202_15:KR:=fun c d e=>jR b d e (s202_14 F k a b) fun a=>leqI c (I 8000) fun b=>a b d e
def s202_16:KR:=fun c d e=>jR b d e (s202_15 F k a b) fun a=>mQ (fun b=>a b d e) (lenSl c)
def s202_17:KR:=fun c d e=>jR b d e (s202_16 F k a b) fun a=>loadK d c fun b=>a b d e
def s202_18:KQ:=fun b=>geqI b (I 1) fun b=>jR b H n (s202_17 F k a b) fun b=>faddrK 0 a fun a=>b a H n
def s202(_:Nat):Hand:=fun a _ b c d e=>arg1 b fun b f=>arg0 f (boxE b c d fun b c=>forceN (Nat.succ d) fun d=>faddrK 0 b fun f=>loadK c f fun f=>mQ (s202_18 a c e d b) (lenSl f))
theorem h202:HO 202 s202:=hO 1 (T2 L0 (T2 L0 L0)) Tryz.func202 Tryz.call202 fun N F G l H n k=>by kernel_rfl
def s203_0:KQ:=fun b=>AV.ckOne a (AV.ckOne b (storeK 2 H (.ptr m 0) (.agg [a,b]) fun _ a=>loadNK 2 a (.ptr m 0) fun b=>k b a n))
def s203_1:KJ:=fun _ c d=>faddrK 0 b fun e=>loadK c e fun e=>loadK c a fun a=>faddrK 1 b fun b=>loadK c b fun b=>mQ (s203_0 c k d n e) fun d=>AV.ckPN b (lookM [] .nilp false a b c d)
def s203_2:KR:=fun _ e f=>loadK H a fun a=>ifB (sameF 8 a b) (loadK H c fun a=>ifB (sameF 8 a d) (j [] e f))
def s203_3:KQ:=fun c=>nilPE .eql c fun c=>cB c (forceN (Nat.add n 1) fun c=>loadK H a fun d=>faddrK 1 b fun e=>loadK H e fun f=>faddrK 1 b fun b=>loadK H b fun b=>nilK b (faddrK 0 b fun b=>loadK H b fun b=>F 67 [b] H c fun b c g=>AV.ckOne b (forceN (Nat.add n 0) fun h=>boxE (.agg [b]) c h fun b i=>at_ i h fun i=>hput c h i fun h=>mR (s203_2 j c a d e f) fun a=>AV.ckPN f (mapK [] h d f b fun b c=>a b c g)))) (j [] H n)
def s203(_:Nat):Hand:=fun a _ b c d e=>arg1 b fun b f=>arg1 f fun f g=>arg0 g (boxE b c d fun b c=>forceN (Nat.succ d) fun d=>newK [I 0,.nilp] c d fun c=>forceN (Nat.succ d) fun g=>mJ (s203_1 e d f b) fun d=>loadK c f fun e=>faddrK 1 b fun h=>loadK c h fun h=>mQ (s203_3 a d c g f b) fun a=>AV.ckPN h (lookM [] .nilp false e h c a))
theorem h203:HO 203 s203:=hO 2 (T2 L0 (.join [] (T2 L0 (T2 L0 L0)) (T2 L0 L0))) Tryz.func203 Tryz.call203 fun N F G l H n k=>by kernel_rfl
def s204_0:KJ→KJ:=fun _ b c d=>arg1 b fun b _=>lssI b a fun a=>cB a false (j [] c d)
def s204_1:KQ:=fun b=>mJ (fun _ b c=>k a b c) fun a=>iterN n (s204_0 a b) [I 0] H m
def s204_2:KJ:=fun _ c d=>nilK a (faddrK 6 a fun a=>loadK c a fun a=>mQ (s204_1 c k n d b) (lenSl a))
def s204_3:KJ:=fun _ b c=>addI a (I 1) fun a=>j [a] b c
def s204_4:KR:=fun d e f=>nilK a (faddrK 2 a fun a=>storeK 1 e a d fun _ a=>loadK H b fun b=>ifB (sameF 8 b c) (j [] a f))
def s204_5:KJ→KJ:=fun e f g h=>arg1 f fun f _=>lssI f d fun d=>cB d (mJ (s204_3 e f) fun d=>iaddrK 2 c f fun c=>loadNK 2 g c fun c=>newK [I 0,.nilp] g h fun e=>forceN (Nat.succ h) fun f=>storeK 2 e (.ptr h 0) c fun _ c=>forceN (Nat.add f 1) fun e=>nilK b (faddrK 2 b fun g=>loadK c g fun i=>loadNK 2 c (.ptr h 0) fun h=>callV F G a [h] c e fun a c e=>forceN (Nat.add f 0) fun f=>Ev.layK 0 2 true a [I 0,.nilp] fun a=>newK a c f fun a=>at_ a f fun a=>hput c f a fun a=>mR (s204_4 d c b g i) (appK 2 a e i (.sl f 0 1 (.known 1))))) (j [] g h)
def s204_6:KQ:=fun e=>mJ (s204_2 k n a c) fun a=>iterN n (s204_5 F G a b c d e) [I 0] H m
def s204(a:Nat):Hand:=fun b c d e f g=>arg1 d fun d h=>arg1 h fun h i=>arg0 i (forceN (Nat.add f 1) fun i=>nilK d (faddrK 0 d fun j=>loadK e j fun j=>b 26 [j] e i fun i j l=>nilK d (faddrK 1 d fun m=>loadK j m fun o=>nilK d (faddrK 3 d fun p=>loadK j p fun q=>b 67 [q] j l fun l r s=>nilK d (faddrK 4 d fun t=>loadK r t fun u=>b 67 [u] r s fun s v w=>nilK d (faddrK 5 d fun x=>loadK v x fun y=>b 66 [y] v w fun w z A=>AV.ckOne i (AV.ckOne o (AV.ckOne .nils (AV.ckOne l (AV.ckOne s (AV.ckOne w (AV.ckOne .nils (forceN (Nat.add f 0) fun f=>boxE (.agg [i,o,.nils,l,s,w,.nils]) z f fun i l=>at_ l f fun l=>loadK e m fun s=>ifB (sameF 8 s o) (loadK r m fun s=>ifB (sameF 8 s o) (loadK v m fun s=>ifB (sameF 8 s o) (loadK z m fun m=>ifB (sameF 8 m o) (loadK e p fun m=>ifB (sameF 8 m q) (loadK e t fun m=>ifB (sameF 8 m u) (loadK j t fun m=>ifB (sameF 8 m u) (loadK e x fun e=>ifB (sameF 8 e y) (loadK j x fun e=>ifB (sameF 8 e y) (loadK r x fun e=>ifB (sameF 8 e y) (hput z f l fun e=>nilK d (faddrK 2 d fun f=>loadK e f fun f=>mQ (s204_6 b c e g a A d h i f) (lenSl f)))))))))))))))))))))))))
theorem h204:HO 204 s204:=hO 2 (T2 L0 (T2 L0 (T2 (T2 L0 (.one [] (.one [41] (T2 L0 (T2 (T2 L0 L0) (T2 (.one [] (T2 L0 L0)) L0)))))) (T2 (T2 L0 (.one [] (.one [63] (T2 L0 (T2 (T2 .stop L0) .stop))))) (T2 L0 L0))))) Tryz.func204 Tryz.call204 fun N F G l H n k=>by kernel_rfl
def s205_0:KJ:=fun _ b c=>addI a (I 1) fun a=>j [a] b c
def s205_1:KJ→KJ:=fun d e f g=>arg1 e fun e _=>lssI e c fun c=>cB c (mJ (s205_0 d e) fun c=>iaddrK 1 a e fun d=>loadK f d fun d=>loadK f b fun b=>callV F G b [d] f g fun b d f=>iaddrK 1 a e fun a=>storeK 1 d a b fun _ a=>c [] a f) (j [] f g)
def s205_2:KQ:=fun c=>mJ (fun _ a b=>k (.tup []) a b) fun d=>iterN n (s205_1 F G d a b c) [I 0] H m
def s205(a:Nat):Hand:=fun b c d e f g=>arg1 d fun d h=>arg1 h fun h i=>arg0 i (mQ (s205_2 b c e g a f d h) (lenSl d))
theorem h205:HO 205 s205:=hO 2 (T2 L0 (.one [] (.one [7] (T2 L0 (T2 (T2 L0 L0) (T2 (.one [] (T2 L0 L0)) L0)))))) Tryz.func205 Tryz.call205 fun N F G l H n k=>by kernel_rfl
def s207(_:Nat):Hand:=fun _ _ a b c d=>arg1 a fun a e=>arg0 e (boxE a b c fun a b=>forceN (Nat.succ c) fun c=>AV.ckOk a (d (.fn (.func 270) [] [a]) b c))
theorem h207:HO 207 s207:=hO 1 (T2 L0 (T2 L0 L0)) Tryz.func207 Tryz.call207 fun N F G l H n k=>by kernel_rfl
def s208(_:Nat):Hand:=fun a _ b c d e=>arg1 b fun b f=>arg1 f fun f g=>arg0 g (boxE f c d fun c f=>forceN (Nat.succ d) fun d=>faddrK 2 c fun g=>loadK f g fun g=>notB g fun g=>cB g (faddrK 0 c fun c=>loadNK 2 f c fun c=>a 210 [b,c,.nils] f d e) false)
theorem h208:HO 208 s208:=hO 2 (T2 L0 (T2 (T2 L0 (T2 (T2 L0 L0) .stop)) .stop)) Tryz.func208 Tryz.call208 fun N F G l H n k=>by kernel_rfl
def s209_0:KJ:=fun a b c=>arg1 a fun a _=>F 123 [a] b c fun _ b c=>F 167 [a] b c k
def s209_1:KJ:=fun b c d=>arg1 b fun b _=>addI a (I 1) fun a=>j [b,a] c d
def s209_2:KJ→KJ:=fun d e f g=>arg1 e fun e h=>arg1 h fun h _=>lssI h c fun c=>cB c (mJ (s209_1 d h) fun c=>iaddrK 1 b h fun b=>loadK f b fun b=>nilK a (faddrK 5 a fun a=>loadK f a fun a=>F 118 [a,b] f g fun a b d=>AV.ckOne a (newK [a] b d fun a=>forceN (Nat.succ d) fun b=>mR (fun a b d=>c [a] b d) (appK 1 a b e (.sl d 0 1 (.known 1)))))) (j [e] f g)
def s209_3:KQ:=fun c=>mJ (s209_0 F k) fun d=>iterN n (s209_2 F d a b c) [.nils,I 0] H m
def s209(a:Nat):Hand:=fun b _ c d e f=>arg1 c fun c g=>arg1 g fun g h=>arg0 h (mQ (s209_3 b d f a e c g) (lenSl g))
theorem h209:HO 209 s209:=hO 2 (T2 L0 (T2 L0 (T2 (T2 L0 (.one [5] (.one [5,10] (T2 L0 (T2 (T2 L0 L0) (T2 (.one [5] (T2 L0 L0)) L0)))))) (T2 L0 (T2 L0 L0))))) Tryz.func209 Tryz.call209 fun N F G l H n k=>by kernel_rfl
def s210_0:KJ:=fun a b c=>arg1 a fun a _=>k a b c
def s210_1:KJ:=fun b c d=>arg1 b fun b _=>addI a (I 1) fun a=>j [b,a] c d
def s210_2:KJ→KJ:=fun e f g h=>arg1 f fun f i=>arg1 i fun i _=>lssI i b fun b=>cB b (mJ (s210_1 e i) fun b=>iaddrK 1 a i fun a=>loadK g a fun a=>F 166 [c,a] g h fun c e g=>notB c fun c=>cB c (faddrK 1 d fun c=>loadK e c fun c=>nilK c (faddrK 0 c fun c=>loadK e c fun c=>iaddrK 1 c a fun a=>loadK e a fun a=>AV.ckOne a (newK [a] e g fun a=>forceN (Nat.succ g) fun c=>mR (fun a c d=>b [a] c d) (appK 1 a c f (.sl g 0 1 (.known 1)))))) false) (j [f] g h)
def s210_3:KQ:=fun d=>mJ (s210_0 k) fun e=>iterN n (s210_2 F e a d b c) [.nils,I 0] H m
def s210_4:KJ:=fun c d e=>arg1 c fun c _=>mQ (s210_3 F d k n e c a b) (lenSl c)
def s210_5:KQ:=fun d=>extK 0 d fun e=>extK 1 d fun d=>mJ (s210_4 F k n b c) fun b=>notB d fun d=>cB d (nilK a (faddrK 0 a fun d=>loadNK 4 H d fun d=>faddrK 0 c fun e=>loadK H e fun e=>F 271 [d,e] H m fun d e f=>extK 0 d fun g=>extK 1 d fun _=>nilK a (faddrK 4 a fun a=>loadK e a fun a=>faddrK 0 c fun c=>loadK e c fun c=>mR (fun _ a c=>b [g] a c) fun b=>AV.ckNum c (mapK [] e a c g fun a c=>b a c f)))) (b [e] H m)
def s210(a:Nat):Hand:=fun b _ c d e f=>arg1 c fun c g=>arg1 g fun g h=>arg1 h fun h i=>arg0 i (boxE g d e fun d g=>forceN (Nat.succ e) fun e=>nilK c (faddrK 4 c fun i=>loadK g i fun i=>faddrK 0 d fun j=>loadK g j fun j=>mQ (s210_5 b g f a e c h d) fun a=>AV.ckNum j (lookM [] .nils true i j g a)))
theorem h210:HO 210 s210:=hO 3 (T2 L0 (T2 L0 (.join [7] (T2 L0 (T2 (T2 L0 L0) L0)) (T2 L0 (T2 (T2 L0 (.one [9] (.one [9,43] (T2 L0 (T2 (T2 L0 L0) (T2 (.one [9] (T2 L0 (T2 L0 (T2 L0 .stop)))) L0)))))) (T2 L0 L0)))))) Tryz.func210 Tryz.call210 fun N F G l H n k=>by kernel_rfl
def s211_0:KJ:=fun a b c=>arg1 a fun a _=>k a b c
def s211_1:KJ:=fun b c d=>arg1 b fun b _=>addI a (I 1) fun a=>j [b,a] c d
def s211_2:KJ→KJ:=fun d e f g=>arg1 e fun e h=>arg1 h fun h _=>lssI h b fun b=>cB b (mJ (s211_1 d h) fun b=>iaddrK 1 a h fun a=>loadK f a fun a=>faddrK 1 c fun c=>loadK f c fun c=>nilK c (faddrK 0 c fun c=>loadK f c fun c=>iaddrK 1 c a fun a=>loadK f a fun a=>AV.ckOne a (newK [a] f g fun a=>forceN (Nat.succ g) fun c=>mR (fun a c d=>b [a] c d) (appK 1 a c e (.sl g 0 1 (.known 1)))))) (j [e] f g)
def s211_3:KQ:=fun c=>mJ (s211_0 k) fun d=>iterN n (s211_2 d a c b) [.nils,I 0] H m
def s211(a:Nat):Hand:=fun _ _ b c d e=>arg1 b fun b f=>arg1 f fun f g=>arg0 g (boxE f c d fun c f=>forceN (Nat.succ d) fun d=>nilK b (faddrK 0 b fun b=>faddrK 0 b fun b=>loadK f b fun b=>faddrK 0 c fun g=>loadK f g fun g=>iaddrK 6 b g fun b=>faddrK 5 b fun b=>loadK f b fun b=>mQ (s211_3 f e a d b c) (lenSl b)))
theorem h211:HO 211 s211:=hO 2 (T2 L0 (T2 L0 (T2 (T2 L0 (.one [5] (.one [5,19] (T2 L0 (T2 (T2 L0 L0) (T2 (.one [5] (T2 L0 L0)) L0)))))) (T2 L0 L0)))) Tryz.func211 Tryz.call211 fun N F G l H n k=>by kernel_rfl
def s212_0:KJ:=fun a b c=>arg1 a fun a d=>arg1 d fun d e=>arg1 e fun e f=>arg1 f fun f g=>arg1 g fun g h=>arg1 h fun h i=>arg1 i fun i l=>arg1 l fun l m=>arg1 m fun m o=>arg1 o fun o p=>arg1 p fun p q=>arg1 q fun q r=>arg1 r fun r s=>arg1 s fun s t=>arg1 t fun t u=>arg1 u fun u v=>arg1 v fun v w=>arg1 w fun w x=>arg1 x fun x _=>j [a,d,e,f,g,h,i,l,m,o,p,q,r,s,t,u,v,w,x] b c
def s212_1:KQ:=fun l=>pickK f l fF fun f=>cB f false (F 279 [a,w,x,b] H n fun b f m=>extK 0 b fun q=>extK 1 b fun b=>subI q w fun A=>subI x q fun B=>quoI z (I 8) fun z=>lssI A B fun C=>cB C (geqI A z fun z=>F 212 [a,w,q,y] f m fun _ a f=>addI q (I 1) fun m=>j [m,x,y,z,b,c,d,e,g,h,i,o,p,r,s,t,u,v,l] a f) (geqI B z fun z=>addI q (I 1) fun A=>F 212 [a,A,x,y] f m fun _ a f=>j [w,q,y,z,b,c,d,e,g,h,i,o,p,r,s,t,u,v,l] a f))
def s212_2:KR:=fun l m q=>jQ f (s212_1 F j m q a b c d e f g h i o p r s t u l v w x y) (notB l)
def s212_3:KQ:=fun l=>jR f H n (s212_2 F j a b c d e f g h i o p r s t l u v w x) (F 265 [p,l] H n)
def s212_4:KQ:=fun l=>jQ f (s212_3 F j H n a b c d e f g h i o p r s l t u v w) (loadK H l)
def s212_5:KQ:=fun l=>jQ f (s212_4 F j H n a b c d e f g h i o p r l s t u v) (iaddrK 1 r l)
def s212_6:KQ:=fun l=>jQ f (s212_5 F j H n a b c d e f g h i o p l r s t u) fun a=>a b
def s212_7:KQ:=fun l=>jQ f (s212_6 F j H n a b c d e f g h i o l p r s t) fun b=>b a
def s212_8:KQ:=fun l=>jQ f (s212_7 F j H n a b c d e f g h i l o p r s) (loadK H l)
def s212_9:KQ:=fun l=>jQ f (s212_8 F j H n a b c d e f g h l i o p r) (iaddrK 1 g l)
def s212_10:KQ:=fun l=>jQ f (s212_9 F j H n a b c d e f g l h i o p) (subI l (I 1))
def s212_11:KQ:=fun l=>jQ f (s212_10 F j H n a b c d e f l g h i o) fun a=>a g
def s212_12:KJ:=fun g h i=>arg1 g fun g l=>arg1 l fun l m=>arg1 m fun m _=>gtrI c (I 0) fun o=>jQ o (s212_11 F j h i a b g l m o c d e f) fun b=>b a
def s212_13:KR:=fun g h i=>pickK e g fF fun e=>cB e (F 277 [a,b,c] h i fun a b c=>cB a (k (.tup []) b c) (j [d,f,g] b c)) (j [d,f,g] h i)
def s212_14:KR:=fun f g h=>jR e g h (s212_13 F j k a b c d e f) fun a=>eqlI f (I 1) fun b=>a b g h
def s212_15:KR:=fun f g h=>pickK e f fF fun e=>jR e g h (s212_14 F j k a c d f e) fun a=>a b g h
def s212_16:KJ→KJ:=fun b c d e=>arg1 c fun c f=>arg1 f fun f g=>arg1 g fun g h=>arg1 h fun h i=>arg1 i fun i j=>arg1 j fun _ j=>arg1 j fun _ j=>arg1 j fun _ j=>arg1 j fun _ j=>arg1 j fun _ j=>arg1 j fun _ j=>arg1 j fun _ j=>arg1 j fun _ j=>arg1 j fun _ j=>arg1 j fun _ j=>arg1 j fun _ j=>arg1 j fun _ j=>arg1 j fun _ j=>arg1 j fun _ _=>mJ (s212_0 b) fun b=>subI f c fun j=>leqI j (I 12) fun l=>cB l (F 272 [a,c,f] d e fun _ a b=>k (.tup []) a b) (eqlI g (I 0) fun l=>cB l false (notB h fun l=>cB l false (F 275 [a,c,f] d e fun d e l=>extK 0 d fun m=>extK 1 d fun d=>eqlI d (I 2) fun o=>cB o false (mJ (s212_12 F b a m c f g j) fun b=>jR h e l (s212_15 F b k a d c f h) fun a=>a i e l))))
def s212(a:Nat):Hand:=fun b _ c d e f=>arg1 c fun c g=>arg1 g fun g h=>arg1 h fun h i=>arg1 i fun i j=>arg0 j (mJ (fun _ a b=>f (.tup []) a b) fun _=>iterN a (s212_16 b f c) [g,h,i,.bool true,.bool true,.bad,.bad,.bad,.bad,.bad,.bad,.bad,.bad,.bad,.bad,.bad,.bad,.bad,.bad] d e)
theorem h212:HO 212 s212:=hO 4 (T2 L0 (T2 L0 (.one [] (.one [1,2,3,8,9,63,66,67,76,77,78,79,80,81,82,83,84,85,86] (.one [1,2,3,8,9,63,66,67,76,77,78,79,80,81,82,83,84,85,86] (T2 L0 (T2 (T2 L0 (T2 (T2 L0 L0) L0)) (T2 (T2 L0 (T2 .stop L0)) (T2 (T2 L0 (T2 .stop L0)) (T2 L0 (T2 (T2 L0 (T2 .stop L0)) (.join [63,66,67] (T2 L0 (T2 (T2 L0 (T2 L0 L0)) L0)) (T2 (T2 L0 (T2 .stop L0)) (T2 L0 (T2 L0 (T2 L0 (T2 L0 (T2 L0 (T2 (T2 L0 (T2 L0 L0)) (T2 L0 (T2 L0 L0))))))))))))))))))))) Tryz.func212 Tryz.call212 fun N F G l H n k=>by kernel_rfl
def s213(_:Nat):Hand:=fun a _ b c d e=>arg1 b fun b f=>arg0 f (cB fF false (a 237 [b] c d e))
theorem h213:HO 213 s213:=hO 1 (T2 L0 (T2 (T2 .stop L0) (T2 L0 L0))) Tryz.func213 Tryz.call213 fun N F G l H n k=>by kernel_rfl
def s214(_:Nat):Hand:=fun a _ b c d e=>arg1 b fun b f=>arg0 f (boxE b c d fun b c=>forceN (Nat.succ d) fun d=>loadNK 4 c b fun b=>a 281 [b] c d fun a b c=>extK 0 a fun _=>extK 1 a fun a=>e a b c)
theorem h214:HO 214 s214:=hO 1 (T2 L0 (T2 L0 (T2 L0 L0))) Tryz.func214 Tryz.call214 fun N F G l H n k=>by kernel_rfl
def s215_0:KJ:=fun _ a b=>loadNK 5 a (.ptr m 0) fun c=>storeK 5 a (.ptr n 0) c fun _ a=>loadNK 5 a (.ptr n 0) fun c=>k c a b
def s215_1:KJ:=fun _ b c=>addI a (I 1) fun a=>j [a] b c
def s215_2:KJ→KJ:=fun b c d e=>arg1 c fun c _=>lssI c a fun a=>cB a (mJ (s215_1 b c) fun a=>iaddrK 1 (.sl n 0 8 (.known 8)) c fun b=>loadK d b fun b=>faddrK 0 (.ptr m 0) fun c=>loadK d c fun c=>F 285 [c,b] d e fun _ b c=>a [] b c) (j [] d e)
def s215_3:KQ:=fun a=>mJ (s215_0 k m n2) fun b=>iterN n (s215_2 F b N n2 a) [I 0] H n1
def s215_4:KJ:=fun _ a b=>AV.ckOne (.str 7 28554821303361894) (AV.ckOne (.str 4 1701869940) (AV.ckOne (.str 5 521644110433) (AV.ckOne (.str 5 435526984050) (AV.ckOne (.str 7 32479991798327412) (AV.ckOne (.str 5 461228831859) (AV.ckOne (.str 6 133532402673005) (AV.ckOne (.str 4 1735290732) (newK [.str 7 28554821303361894,.str 4 1701869940,.str 5 521644110433,.str 5 435526984050,.str 7 32479991798327412,.str 5 461228831859,.str 6 133532402673005,.str 4 1735290732] a b fun a=>forceN (Nat.succ b) fun c=>mQ (s215_3 F a k n m b c N) (lenSl (.sl b 0 8 (.known 8)))))))))))
def s215_5:KJ:=fun _ b c=>addI a (I 1) fun a=>j [a] b c
def s215_6:KJ→KJ:=fun b c d e=>arg1 c fun c _=>lssI c a fun a=>cB a (mJ (s215_5 b c) fun a=>lssI c (I 10) fun b=>cB b (faddrK 0 (.ptr n 0) fun b=>loadK d b fun b=>F 283 [b,.str 4 1668248176,c] d e fun _ b c=>a [] b c) (faddrK 0 (.ptr n 0) fun b=>loadK d b fun b=>F 284 [b] d e fun _ b c=>a [] b c)) (j [] d e)
def s215(a:Nat):Hand:=fun b _ c d e f=>arg1 c fun c g=>arg0 g (newK [.nilp,.nils,.nils,.nils,I 0] d e fun d=>forceN (Nat.succ e) fun g=>b 282 [] d g fun d g h=>AV.ckOne d (AV.ckOne c (newK [.nilp,.nils,.nils,.nils,I 0] g h fun g=>forceN (Nat.succ h) fun i=>storeK 5 g (.ptr h 0) (.agg [d,.nils,.nils,.nils,c]) fun _ d=>mJ (s215_4 b f a e h) fun e=>iterN a (s215_6 b e h c) [I 0] d i)))
theorem h215:HO 215 s215:=hO 1 (T2 L0 (T2 L0 (T2 (T2 L0 (.one [] (.one [4] (T2 (T2 L0 (T2 L0 L0)) (T2 (.one [] (T2 L0 (T2 L0 L0))) L0))))) (T2 (T2 L0 (.one [] (.one [26] (T2 L0 (T2 (T2 L0 L0) (T2 (.one [] (T2 L0 L0)) L0)))))) (T2 L0 L0))))) Tryz.func215 Tryz.call215 fun N F G l H n k=>by kernel_rfl
def s216(_:Nat):Hand:=fun a _ b c d e=>arg1 b fun b f=>arg0 f (a 218 [b] c d fun a c d=>notB a fun a=>cB a false (nilK b (faddrK 9 b fun a=>loadK c a fun a=>mQ (fun a=>e a c d) (lenSl a))))
theorem h216:HO 216 s216:=hO 1 (T2 L0 (T2 (T2 L0 (T2 .stop L0)) (T2 L0 L0))) Tryz.func216 Tryz.call216 fun N F G l H n k=>by kernel_rfl
def s217_0:KR:=fun b c d=>pickK a b fF fun a=>cB a (k (.str 7 29113321804882295) c d) (k (.str 5 521375147378) c d)
def s217_1:KQ:=fun c=>jR a H n (s217_0 k a) (F 286 [b,c] H n)
def s217_2:KQ:=fun c=>jQ a (s217_1 F H k n a b) (loadK H c)
def s217_3:KQ:=fun c=>jQ a (s217_2 F H k n a b) (iaddrK 1 c (I 0))
def s217_4:KQ:=fun c=>jQ a (s217_3 F H k n a b) (loadK H c)
def s217_5:KQ:=fun b=>jQ a (s217_4 F H k m a b) (faddrK 1 (.ptr n 0))
def s217_6:KQ:=fun b=>jQ a (s217_5 F H k n m a) (faddrK 0 b)
def s217_7:KQ:=fun b=>jQ a (s217_6 F H k n m a) fun a=>nilK b (a b)
def s217_8:KQ:=fun b=>gtrI b (I 0) fun b=>jQ b (s217_7 F H k n m b) fun b=>b a
def s217_9:KQ:=fun c=>pickK b c fF fun b=>cB b false (faddrK 1 (.ptr n 0) fun b=>loadK H b fun b=>mQ (s217_8 F H k n m a) (lenSl b))
def s217_10:KQ:=fun c=>jQ b (s217_9 F H k n m a b) (strB .eql c (.str 6 111546465216611))
def s217_11:KQ:=fun c=>jQ b (s217_10 F H k n m a b) (loadK H c)
def s217_12:KQ:=fun c=>jQ b (s217_11 F H k n m a b) (faddrK 0 c)
def s217_13:KQ:=fun d=>jQ b (s217_12 F H k n m a b) (iaddrK 6 c d)
def s217_14:KQ:=fun d=>jQ b (s217_13 F H k n m a b c) (loadK H d)
def s217_15:KQ:=fun c=>jQ b (s217_14 F H k n N a b c) (faddrK 0 (.ptr m 0))
def s217_16:KQ:=fun c=>jQ b (s217_15 F H k n m N a b) (loadK H c)
def s217_17:KQ:=fun c=>jQ b (s217_16 F H k n m N a b) (faddrK 0 c)
def s217_18:KQ:=fun c=>jQ b (s217_17 F H k n m N a b) (faddrK 5 c)
def s217_19:KQ:=fun c=>jQ b (s217_18 F H k n m N a b) fun a=>nilK c (a c)
def s217_20:KQ:=fun c=>subI c (I 1) fun c=>iaddrK 3 b c fun b=>loadNK 3 H b fun b=>newK [I 0,.bool false,.nils] H m fun c=>forceN (Nat.succ m) fun d=>storeK 3 c (.ptr m 0) b fun _ b=>faddrK 1 (.ptr m 0) fun c=>loadK b c fun c=>notB c fun c=>jQ c (s217_19 F b k n m d a c) fun b=>b a
def s217_21:KQ:=fun b=>eqlI b (I 0) fun b=>cB b (k (.str 4 1701736292) H m) (faddrK 0 (.ptr n 0) fun b=>loadK H b fun b=>faddrK 0 (.ptr n 0) fun c=>loadK H c fun c=>mQ (s217_20 F H k n m a b) (lenSl c))
def s217_22:KR:=fun d e f=>pickK b fT d fun b=>cB b false (nilK a (faddrK 9 a fun b=>loadK e b fun b=>iaddrK 4 b c fun b=>loadNK 4 e b fun b=>newK [.nils,.nils,.bool false,I 0] e f fun c=>forceN (Nat.succ f) fun d=>storeK 4 c (.ptr f 0) b fun _ b=>faddrK 2 (.ptr f 0) fun c=>loadK b c fun c=>cB c false (faddrK 0 (.ptr f 0) fun c=>loadK b c fun c=>mQ (s217_21 F b k f d a) (lenSl c))))
def s217_23:KR:=fun e f g=>jRn b f g (s217_22 F k a b d) fun a=>geqI c e fun b=>a b f g
def s217_24:KR:=fun e f g=>jRn b f g (s217_23 F k a b c d) fun a=>mQ (fun b=>a b f g) (lenSl e)
def s217_25:KR:=fun e f g=>jRn b f g (s217_24 F k a b c d) fun a=>loadK f e fun b=>a b f g
def s217_26:KR:=fun e f g=>jRn b f g (s217_25 F k a b c d) fun a=>faddrK 9 e fun b=>a b f g
def s217_27:KR:=fun e f g=>jRn b f g (s217_26 F k a b c d) fun a=>nilK e (a e f g)
def s217_28:KR:=fun d e f=>jRn b e f (s217_27 F k a b d c) fun b=>b a e f
def s217_29:KR:=fun d e f=>pickK c fT d fun c=>jRn c e f (s217_28 F k a c b) fun a=>a b e f
def s217_30:KR:=fun d e f=>jRn c e f (s217_29 F k a b c) fun a=>lssI d (I 0) fun b=>a b e f
def s217(_:Nat):Hand:=fun a _ b c d e=>arg1 b fun b f=>arg1 f fun f g=>arg0 g (a 218 [b] c d fun c d g=>notB c fun c=>jRn c d g (s217_30 a e b f c) fun a=>a f d g)
theorem h217:HO 217 s217:=hO 2 (T2 L0 (T2 (T2 L0 (T2 .stop L0)) (T2 L0 (T2 (T2 L0 (T2 .stop L0)) (T2 (T2 L0 (T2 (T2 L0 L0) L0)) (T2 L0 (T2 (T2 L0 (T2 .stop L0)) (T2 (T2 L0 (T2 (T2 L0 L0) L0)) (T2 L0 L0))))))))) Tryz.func217 Tryz.call217 fun N F G l H n k=>by kernel_rfl
def s218_0:KR:=fun b c d=>pickK a b fF fun a=>k a c d
def s218_1:KR:=fun b c d=>jR a c d (s218_0 k a) fun a=>loadK c b fun b=>a b c d
def s218_2:KR:=fun b c d=>jR a c d (s218_1 k a) fun a=>faddrK 13 b fun b=>a b c d
def s218_3:KR:=fun b c d=>jR a c d (s218_2 k a) fun a=>nilK b (a b c d)
def s218(_:Nat):Hand:=fun _ _ a b c d=>arg1 a fun a e=>arg0 e (nilPE .neq a fun e=>jR e b c (s218_3 d e) fun d=>d a b c)
theorem h218:HO 218 s218:=hO 1 (T2 L0 (T2 L0 L0)) Tryz.func218 Tryz.call218 fun N F G l H n k=>by kernel_rfl
def s219_0:KJ:=fun c d e=>arg1 c fun c _=>F 288 [a,b,c] d e fun _ a b=>j [] a b
def s219_1:KJ:=fun b c d=>arg1 b fun b _=>subI a (I 1) fun a=>j [b,a] c d
def s219_2:KJ→KJ:=fun a b c d=>arg1 b fun b e=>arg1 e fun e _=>geqI e (I 0) fun f=>cB f (mJ (s219_1 a e) fun a=>forceN (Nat.add d 1) fun f=>faddrK 4 (.ptr m 0) fun g=>loadK c g fun g=>iaddrK 1 g e fun e=>loadK c e fun e=>faddrK 2 (.ptr n 0) fun g=>loadK c g fun g=>AV.ckOne e (AV.ckOne g (forceN (Nat.add d 0) fun d=>Ev.layK 0 3 true (.agg [e,.bool false,g]) [I 0,.bool false,.nils] fun e=>newK e c d fun e=>at_ e d fun e=>hput c d e fun c=>mR (fun b c d=>a [b] c d) (appK 3 c f b (.sl d 0 1 (.known 1)))))) (j [b] c d)
def s219_3:KQ:=fun c=>subI c (I 1) fun c=>mJ (s219_0 F j a b) fun a=>iterN n (s219_2 a m N) [.nils,c] H n1
def s219_4:KJ:=fun c d e=>arg1 c fun c _=>faddrK 4 (.ptr n 0) fun f=>loadK d f fun f=>iaddrK 1 f (I 0) fun f=>loadK d f fun f=>AV.ckOne f (AV.ckOne c (Ev.layK 0 3 true (.agg [f,.bool false,c]) [I 0,.bool false,.nils] fun c=>newK c d e fun c=>forceN (Nat.succ e) fun d=>F 288 [a,b,.sl e 0 1 (.known 1)] c d fun _ a b=>j [] a b))
def s219_5:KJ:=fun b c d=>arg1 b fun b _=>addI a (I 1) fun a=>j [b,a] c d
def s219_6:KQ:=fun d=>lssI c d fun d=>cB d (mJ (s219_5 J c) fun d=>nilK a (faddrK 0 a fun a=>faddrK 0 a fun a=>loadK H a fun a=>F 284 [a] H n fun a e f=>extK 0 a fun g=>extK 1 a fun _=>faddrK 1 (.ptr m 0) fun a=>loadK e a fun a=>iaddrK 1 a c fun a=>loadK e a fun a=>F 290 [b,a,g] e f fun a b c=>d [a] b c)) (j [b] H n)
def s219_7:KJ→KJ:=fun b c d e=>arg1 c fun c f=>arg1 f fun f _=>faddrK 1 (.ptr n 0) fun g=>loadK d g fun g=>mQ (s219_6 F j b d e n a c f) (lenSl g)
def s219_8:KQ:=fun d=>F 289 [b,d] H n1 fun b d e=>notB b fun b=>cB b false (faddrK 2 (.ptr m 0) fun b=>loadK d b fun b=>mJ (s219_4 F j N a c) fun c=>iterN n (s219_7 F c N a) [b,I 0] d e)
def s219_9:KJ:=fun e f g=>arg1 e fun e _=>cB e (nilK a (faddrK 0 a fun d=>faddrK 0 (.ptr m 0) fun e=>loadK f e fun e=>faddrK 2 (.ptr m 0) fun h=>loadK f h fun h=>faddrK 3 (.ptr m 0) fun i=>loadK f i fun i=>F 291 [d,e,h,i,c] f g fun c d e=>loadNK 3 d (.ptr n 0) fun f=>F 292 [a,b,f,.int .i64 (.negSucc 0),c] d e fun _ a b=>j [] a b)) (strB .eql d (.str 4 1668248176) fun e=>cB e false (strB .eql d (.str 6 110369476601972) fun e=>cB e (faddrK 4 (.ptr m 0) fun b=>loadK f b fun b=>iaddrK 1 b (I 0) fun b=>loadK f b fun b=>faddrK 2 (.ptr n 0) fun c=>loadK f c fun c=>F 294 [a,b,c] f g fun a b c=>notB a fun a=>cB a false (j [] b c)) (strB .eql d (.str 4 1684366702) fun e=>cB e false (strB .eql d (.str 3 7959156) fun e=>cB e false (strB .eql d (.str 5 435727982962) fun e=>cB e false (strB .eql d (.str 2 28783) fun e=>cB e false (strB .eql d (.str 2 26217) fun e=>cB e false (strB .eql d (.str 7 32772496251117923) fun e=>cB e false (strB .eql d (.str 8 7885649434211737955) fun e=>cB e false (strB .eql d (.str 9 1870935025940931240291) fun e=>cB e false (strB .eql d (.str 5 521510350945) fun d=>cB d (loadNK 3 f (.ptr n 0) fun d=>F 299 [a,b,d,c] f g fun _ a b=>j [] a b) false)))))))))))
def s219_10:KQ:=fun d=>iaddrK 4 b c fun b=>faddrK 0 b fun b=>storeK 1 H b d fun _ b=>faddrK 1 (.ptr m 0) fun d=>loadK b d fun d=>cB d false (forceN (Nat.add N 1) fun d=>nilK a (faddrK 5 a fun e=>faddrK 0 e fun e=>loadK b e fun e=>faddrK 0 (.ptr m 0) fun f=>loadK b f fun f=>iaddrK 6 e f fun e=>loadNK 6 b e fun e=>forceN (Nat.add N 0) fun f=>newK [.str 0 0,.nils,.str 0 0,I 0,.nils,.nils] b f fun g=>at_ g f fun g=>hput b f g fun b=>storeK 6 b (.ptr f 0) e fun _ b=>faddrK 2 (.ptr m 0) fun e=>loadK b e fun e=>faddrK 1 (.ptr f 0) fun g=>loadK b g fun g=>F 287 [e,g] b d fun b d e=>faddrK 0 (.ptr f 0) fun g=>loadK d g fun g=>mJ (fun _ a b=>k (.tup []) a b) fun h=>strB .eql g (.str 3 7431539) fun i=>cB i (faddrK 4 (.ptr f 0) fun b=>loadK d b fun b=>mQ (s219_3 F h d n m f e a c) (lenSl b)) (strB .eql g (.str 5 465490374508) fun i=>cB i (nilK a (faddrK 0 a fun b=>faddrK 1 (.ptr f 0) fun g=>loadK d g fun g=>mQ (s219_8 F h d n m f e a b c) (lenSl g))) (mJ (s219_9 F h m f a c b g) fun a=>strB .eql g (.str 4 1684957538) fun b=>cB b false (strB .eql g (.str 3 7630441) fun b=>cB b (a [b] d e) (strB .eql g (.str 4 1836020833) fun b=>cB b false (strB .eql g (.str 5 435611006324) fun b=>a [b] d e)))))))
def s219_11:KQ:=fun e=>subI e (I 1) fun e=>mQ (s219_10 F H k n m N a b c) (sliceK 3 d none (some e))
def s219_12:KQ:=fun d=>subI d (I 1) fun d=>iaddrK 3 c d fun d=>loadNK 3 H d fun d=>newK [I 0,.bool false,.nils] H m fun e=>forceN (Nat.succ m) fun f=>storeK 3 e (.ptr m 0) d fun _ d=>nilK a (faddrK 9 a fun e=>loadK d e fun e=>mQ (s219_11 F d k n m f a e b c) (lenSl c))
def s219(a:Nat):Hand:=fun b _ c d e f=>arg1 c fun c g=>arg1 g fun g h=>arg0 h (nilK c (faddrK 9 c fun h=>loadK d h fun h=>iaddrK 4 h g fun h=>faddrK 0 h fun h=>loadK d h fun h=>mQ (s219_12 b d f a e c g h) (lenSl h)))
theorem h219:HO 219 s219:=hO 2 (T2 L0 (T2 L0 (T2 L0 (T2 (T2 L0 (T2 .stop L0)) (T2 L0 (T2 L0 (T2 L0 (.one [] (T2 L0 (T2 (T2 L0 (T2 (T2 L0 (.one [8] (.one [8,9] (T2 (T2 L0 (T2 L0 L0)) (T2 (.one [8] L0) L0))))) L0)) (T2 L0 (T2 (T2 (T2 L0 (T2 .stop L0)) (T2 L0 (T2 (T2 L0 (.one [10] (.one [10,11] (T2 (T2 L0 (T2 L0 L0)) (T2 (.one [10] (T2 L0 L0)) L0))))) L0))) (.join [136] (T2 L0 (T2 .stop (T2 L0 (T2 L0 (T2 L0 (T2 .stop L0)))))) (T2 (T2 L0 L0) (T2 L0 (T2 .stop (T2 L0 (T2 (T2 L0 (T2 .stop L0)) (T2 L0 (T2 .stop (T2 L0 (T2 .stop (T2 L0 (T2 .stop (T2 L0 (T2 .stop (T2 (T2 L0 (T2 .stop (T2 L0 (T2 .stop (T2 L0 (T2 .stop L0)))))) (T2 .stop (T2 L0 (T2 L0 .stop)))))))))))))))))))))))))))))) Tryz.func219 Tryz.call219 fun N F G l H n k=>by kernel_rfl
def s220_0:KJ:=fun b c d=>arg1 b fun b e=>arg1 e fun e _=>nilK a (faddrK 11 a fun a=>storeK 1 c a b fun _ a=>k e a d)
def s220_1:KQ:=fun d=>lssI c d fun c=>cB c false (j [a,b] H n)
def s220_2:KJ→KJ:=fun _ b c d=>arg1 b fun b e=>arg1 e fun e f=>arg1 f fun f _=>nilK a (faddrK 11 a fun a=>loadK c a fun a=>mQ (s220_1 j c d b e f) (lenSl a))
def s220(a:Nat):Hand:=fun b _ c d e f=>arg1 c fun c g=>arg0 g (b 300 [c] d e fun _ b d=>mJ (s220_0 f c) fun e=>iterN a (s220_2 e c) [.nils,.bool true,I 0] b d)
theorem h220:HO 220 s220:=hO 1 (T2 L0 (T2 L0 (T2 L0 (T2 L0 (T2 (T2 L0 (.one [4,5] (.one [4,5,6] (T2 (T2 L0 (T2 .stop L0)) .stop)))) (T2 L0 (T2 L0 L0))))))) Tryz.func220 Tryz.call220 fun N F G l H n k=>by kernel_rfl
def s222_0:KJ:=fun a b c=>arg1 a fun a _=>k a b c
def s222_1:KJ:=fun a b c=>arg1 a fun a d=>arg1 d fun d e=>arg1 e fun e f=>arg1 f fun f g=>arg1 g fun g h=>arg1 h fun h i=>arg1 i fun i l=>arg1 l fun l m=>arg1 m fun m _=>j [a,d,e,f,g,h,i,l,m] b c
def s222_2:KR:=fun l m o=>pickK f fT l fun f=>cB f (addI a (I 1) fun a=>j [a,b,c,d,e,g,h,i,l] m o) (J [a] m o)
def s222_3:KR:=fun i l m=>jRn f l m (s222_2 j J a b c d e f g h i) fun a=>eqlI i (.int .u8 (.ofNat 9)) fun b=>a b l m
def s222_4:KR:=fun h i l=>jRn f i l (s222_3 j J a b c d e f g h) fun a=>indexStrK g h fun b=>a b i l
def s222_5:KR:=fun g h i=>jRn f h i (s222_4 j J a b c d e f g) fun b=>b a h i
def s222_6:KR:=fun g h i=>pickK c fT g fun c=>jRn c h i (s222_5 j J b d e f g c) fun b=>b a h i
def s222_7:KR:=fun f g h=>jRn c g h (s222_6 j J a b c d e f) fun a=>eqlI f (.int .u8 (.ofNat 10)) fun b=>a b g h
def s222_8:KR:=fun e f g=>jRn c f g (s222_7 j J a b c d e) fun a=>indexStrK d e fun b=>a b f g
def s222_9:KR:=fun d e f=>jRn c e f (s222_8 j J a b c d) fun a=>a b e f
def s222_10:KQ:=fun c=>lssI b c fun c=>cB c (mJ (s222_1 j) fun c=>indexStrK a b fun d=>eqlI d (.int .u8 (.ofNat 37)) fun d=>cB d false (indexStrK a b fun d=>eqlI d (.int .u8 (.ofNat 32)) fun d=>jRn d H n (s222_9 c J a b d) fun b=>b a H n)) (J [b] H n)
def s222_11:KJ→KJ:=fun b c d e=>arg1 c fun c f=>arg1 f fun _ f=>arg1 f fun _ f=>arg1 f fun _ f=>arg1 f fun _ f=>arg1 f fun _ f=>arg1 f fun _ f=>arg1 f fun _ f=>arg1 f fun _ _=>mQ (s222_10 b j d e a c) (lenStr a)
def s222(a:Nat):Hand:=fun _ _ b c d e=>arg1 b fun b f=>arg1 f fun f g=>arg0 g (mJ (s222_0 e) fun e=>iterN a (s222_11 e b) [f,.bad,.bad,.bad,.bad,.bad,.bad,.bad,.bad] c d)
theorem h222:HO 222 s222:=hO 2 (T2 L0 (T2 L0 (T2 (.one [5] (.one [5,32,33,34,35,38,39,40,41] (T2 (T2 L0 (T2 L0 L0)) (.one [5,32,33,34,35,38,39,40,41] (T2 L0 (T2 .stop (T2 L0 (T2 L0 L0)))))))) (T2 L0 L0)))) Tryz.func222 Tryz.call222 fun N F G l H n k=>by kernel_rfl
def s223_0:KQ:=fun c=>F 303 [c] H m fun d e f=>cB d (AV.ckOne (I 4) (AV.ckOne c (AV.ckOne a (storeK 3 e (.ptr n 0) (.agg [I 4,c,a]) fun _ a=>loadNK 3 a (.ptr n 0) fun c=>AV.ckOk c (AV.ckOk b (AV.ckOk fT (k (.tup [c,b,.bool true]) a f))))))) (F 50 [c] e f fun d e f=>cB d (AV.ckOne (I 3) (AV.ckOne c (AV.ckOne a (storeK 3 e (.ptr n 0) (.agg [I 3,c,a]) fun _ a=>loadNK 3 a (.ptr n 0) fun c=>AV.ckOk c (AV.ckOk b (AV.ckOk fT (k (.tup [c,b,.bool true]) a f))))))) (AV.ckOne (I 2) (AV.ckOne c (AV.ckOne a (F 231 [c] e f fun d e f=>storeK 3 e (.ptr n 0) (.agg [I 2,c,a]) fun _ a=>loadNK 3 a (.ptr n 0) fun c=>AV.ckOk c (AV.ckOk b (AV.ckOk d (k (.tup [c,b,d]) a f))))))))
def s223_1:KJ:=fun b c d=>arg1 b fun b e=>arg1 e fun e f=>arg1 f fun f g=>arg1 g fun g h=>arg1 h fun h i=>arg1 i fun i l=>arg1 l fun l m=>arg1 m fun m _=>subI a (I 1) fun a=>j [a,b,e,f,g,h,i,l,m] c d
def s223_2:KQ:=fun c=>AV.ckOne (I 5) (AV.ckOne c (AV.ckOne a (addI a b fun b=>storeK 3 H (.ptr n 0) (.agg [I 5,c,a]) fun _ a=>loadNK 3 a (.ptr n 0) fun c=>AV.ckOk c (AV.ckOk b (AV.ckOk fT (k (.tup [c,b,.bool true]) a m))))))
def s223_3:KR:=fun l m q=>pickK b l fF fun b=>cB b (addI o p fun b=>mQ (s223_2 m k n q o p) (sliceStrK a (some o) (some b))) (j [c,d,e,f,g,h,i,l] m q)
def s223_4:KQ:=fun l=>jR b H m (s223_3 j k n a b c d e f g h l i o) (F 304 [c,l] H m)
def s223_5:KQ:=fun l=>jQ b (s223_4 F j H k n m a b c d e f g l h i) fun a=>mQ a (sliceStrK d (some e) (some l))
def s223_6:KQ:=fun i=>jQ b (s223_5 F j H k n m a b c d e f i g h) (addI f i)
def s223_7:KQ:=fun h=>jQ b (s223_6 F j H k n m a b c d e h f g) fun a=>a g
def s223_8:KQ:=fun g=>jQ b (s223_7 F j H k n m a b c d g e f) fun a=>a e
def s223_9:KQ:=fun f=>jQ b (s223_8 F j H k n m a b c f d e) fun a=>a d
def s223_10:KR:=fun e f g=>jQ b (s223_9 F j f k n g a b e c d) fun b=>b a
def s223_11:KQ:=fun e=>leqI b e fun b=>jR b H m (s223_10 F j k n a b c d) (F 305 [] H m)
def s223_12:KJ→KJ:=fun c d e f=>arg1 d fun d g=>arg1 g fun _ g=>arg1 g fun _ g=>arg1 g fun _ g=>arg1 g fun _ g=>arg1 g fun _ g=>arg1 g fun _ g=>arg1 g fun _ g=>arg1 g fun _ _=>geqI d (I 1) fun g=>cB g (mJ (s223_1 c d) fun c=>addI b d fun g=>mQ (s223_11 F c e k n f a g b d) (lenStr a)) false
def s223_13:KJ:=fun c d e=>arg1 c fun c _=>gtrI c b fun f=>cB f (mQ (s223_0 F d k m e b c) (sliceStrK a (some b) (some c))) (mJ (fun _ _ _=>false) fun _=>iterN n (s223_12 F k m a b) [I 2,.bad,.bad,.bad,.bad,.bad,.bad,.bad,.bad] d e)
def s223_14:KJ:=fun e f g=>arg1 e fun e _=>j [e,a,b,c,d] f g
def s223_15:KR:=fun f g h=>pickK b f fF fun b=>cB b (mJ (s223_14 J c d e f) fun b=>addI a (I 1) fun a=>b [a] g h) (j [a] g h)
def s223_16:KR:=fun e f g=>jR b f g (s223_15 j J a b c d e) (F 233 [e] f g)
def s223_17:KR:=fun d e f=>jR b e f (s223_16 F j J a b c d) fun a=>indexStrK c d fun b=>a b e f
def s223_18:KR:=fun c d e=>jR b d e (s223_17 F j J a b c) fun b=>b a d e
def s223_19:KQ:=fun c=>lssI b c fun c=>jR c H n (s223_18 F j J b c) fun b=>b a H n
def s223_20:KJ→KJ:=fun b c d e=>arg1 c fun c f=>arg1 f fun _ f=>arg1 f fun _ f=>arg1 f fun _ f=>arg1 f fun _ _=>mQ (s223_19 F j b d e a c) (lenStr a)
def s223_21:KR:=fun d e f=>pickK c fT d fun c=>cB c (F 302 [a,b] e f fun a b c=>extK 0 a fun d=>extK 1 a fun e=>extK 2 a fun a=>storeK 3 b (.ptr m 0) d fun _ b=>loadNK 3 b (.ptr m 0) fun d=>AV.ckOk d (AV.ckOk e (AV.ckOk a (k (.tup [d,e,a]) b c)))) (indexStrK a b fun c=>eqlI c (.int .u8 (.ofNat 39)) fun c=>cB c false (indexStrK a b fun c=>neqI c (.int .u8 (.ofNat 95)) fun c=>cB c (mJ (s223_13 F k n m a b) fun c=>iterN n (s223_20 F c a) [b,.bad,.bad,.bad,.bad] e f) false))
def s223_22:KR:=fun d e f=>jRn c e f (s223_21 F k n m a b c) fun a=>eqlI d (.int .u8 (.ofNat 126)) fun b=>a b e f
def s223_23:KR:=fun e f g=>jRn d f g (s223_22 F k n m a c d) fun a=>indexStrK b e fun b=>a b f g
def s223_24:KR:=fun d e f=>jRn c e f (s223_23 F k n m a d b c) fun a=>a b e f
def s223(a:Nat):Hand:=fun b _ c d e f=>arg1 c fun c g=>arg1 g fun g h=>arg0 h (newK [I 0,.str 0 0,I 0] d e fun d=>forceN (Nat.succ e) fun h=>b 301 [c,g] d h fun d h i=>jRn d h i (s223_24 b f a e c g d) fun a=>a c h i)
theorem h223:HO 223 s223:=hO 2 (T2 L0 (T2 (T2 L0 (T2 (T2 L0 L0) L0)) (T2 (T2 L0 (T2 .stop L0)) (T2 L0 (T2 (T2 L0 (T2 (.one [8] (.one [8,68,69,70,71] (T2 (T2 L0 (T2 L0 L0)) (.one [8] L0)))) .stop)) (T2 (T2 L0 (T2 (T2 L0 (T2 (T2 L0 (T2 (T2 L0 L0) L0)) (T2 (T2 L0 (T2 (T2 L0 L0) L0)) (T2 L0 L0)))) L0)) (T2 (T2 L0 (.one [] (.one [10,111,112,113,114,115,116,117,118] (T2 (T2 L0 (T2 L0 .stop)) (T2 (.one [111,112,113,114,115,116,117,118] (T2 L0 (T2 (T2 L0 L0) L0))) L0))))) .stop))))))) Tryz.func223 Tryz.call223 fun N F G l H n k=>by kernel_rfl
def s224_0:KJ:=fun _ a b=>loadNK 4 a (.ptr m 0) fun c=>storeK 4 a (.ptr n 0) c fun _ a=>loadNK 4 a (.ptr n 0) fun c=>k c a b
def s224_1:KJ:=fun _ b c=>addI a (I 1) fun a=>j [a] b c
def s224_2:KJ→KJ:=fun c d e f=>arg1 d fun d _=>lssI d b fun b=>cB b (mJ (s224_1 c d) fun b=>iaddrK 1 (.sl N 0 6 (.known 6)) d fun c=>loadK e c fun c=>F 225 [a,c] e f fun d e f=>cB d (F 306 [a] e f fun a b d=>newK [.str 0 0,.str 0 0,I 0,.nils] b d fun b=>forceN (Nat.succ d) fun e=>storeK 4 b (.ptr d 0) a fun _ a=>loadNK 4 a (.ptr m 0) fun b=>loadNK 4 a (.ptr d 0) fun d=>Ev.layK 0 4 true b [.str 0 0,.str 0 0,I 0,.nils,.str 0 0,.str 0 0,I 0,.nils] fun b=>Ev.layK 4 4 true d b fun b=>newK b a e fun a=>forceN (Nat.succ e) fun b=>AV.ckOne (.str 2 28783) (AV.ckOne c (AV.ckOne (.sl e 0 2 (.known 2)) (storeK 4 a (.ptr n 0) (.agg [.str 2 28783,c,I 0,.sl e 0 2 (.known 2)]) fun _ a=>loadNK 4 a (.ptr n 0) fun c=>k c a b)))) (b [] e f)) (j [] e f)
def s224_3:KQ:=fun b=>mJ (s224_0 k m n1) fun c=>iterN n (s224_2 F c k m n1 n2 a b) [I 0] H N
def s224(a:Nat):Hand:=fun b _ c d e f=>arg1 c fun c g=>arg0 g (newK [.str 0 0,.str 0 0,I 0,.nils] d e fun d=>forceN (Nat.succ e) fun g=>b 306 [c] d g fun d g h=>newK [.str 0 0,.str 0 0,I 0,.nils] g h fun g=>forceN (Nat.succ h) fun i=>storeK 4 g (.ptr h 0) d fun _ d=>AV.ckOne (.str 2 15677) (AV.ckOne (.str 2 15708) (AV.ckOne (.str 1 60) (AV.ckOne (.str 2 15421) (AV.ckOne (.str 1 62) (AV.ckOne (.str 2 15678) (newK [.str 2 15677,.str 2 15708,.str 1 60,.str 2 15421,.str 1 62,.str 2 15678] d i fun d=>forceN (Nat.succ i) fun g=>mQ (s224_3 b d f a e g h i c) (lenSl (.sl i 0 6 (.known 6))))))))))
theorem h224:HO 224 s224:=hO 1 (T2 L0 (T2 L0 (T2 (T2 L0 (.one [] (.one [11] (T2 L0 (T2 (T2 L0 L0) (T2 (.one [] (T2 L0 (T2 L0 (T2 (T2 L0 (T2 L0 L0)) L0)))) L0)))))) (T2 L0 L0)))) Tryz.func224 Tryz.call224 fun N F G l H n k=>by kernel_rfl
def s225_0:KR:=fun c d e=>pickK b fT c fun b=>cB b (k fF d e) (nilK a (faddrK 1 a fun b=>loadK d b fun b=>addI b (I 1) fun b=>nilK a (faddrK 1 a fun a=>storeK 1 d a b fun _ a=>k fT a e)))
def s225_1:KR:=fun c d e=>jRn b d e (s225_0 k a b) fun a=>notB c fun b=>a b d e
def s225_2:KR:=fun d e f=>jRn b e f (s225_1 k a b) (F 307 [c,d] e f)
def s225_3:KR:=fun d e f=>jRn c e f (s225_2 F k a c d) fun a=>a b e f
def s225(_:Nat):Hand:=fun a _ b c d e=>arg1 b fun b f=>arg1 f fun f g=>arg0 g (nilK b (faddrK 2 b fun g=>loadK c g fun g=>jRn g c d (s225_3 a e b f g) fun a=>a b c d))
theorem h225:HO 225 s225:=hO 2 (T2 L0 (T2 (T2 L0 (T2 (T2 L0 L0) L0)) (T2 L0 (T2 L0 L0)))) Tryz.func225 Tryz.call225 fun N F G l H n k=>by kernel_rfl
def s226_0:KJ:=fun _ b c=>F 314 [a] b c fun a b c=>storeK 4 b (.ptr n 0) a fun _ a=>loadNK 4 a (.ptr n 0) fun b=>k b a c
def s226_1:KR:=fun b c d=>F 309 [a,.str 3 6581861] c d fun _ a c=>AV.ckOne (.str 5 465490374508) (AV.ckOne b (storeK 4 a (.ptr n 0) (.agg [.str 5 465490374508,.str 0 0,I 0,b]) fun _ a=>loadNK 4 a (.ptr n 0) fun b=>k b a c))
def s226_2:KR:=fun b c d=>F 309 [a,.str 3 6581861] c d fun _ a c=>faddrK 1 (.ptr m 0) fun d=>loadK a d fun d=>AV.ckOne (.str 4 1668248176) (AV.ckOne d (AV.ckOne b (storeK 4 a (.ptr n 0) (.agg [.str 4 1668248176,d,I 0,b]) fun _ a=>loadNK 4 a (.ptr n 0) fun b=>k b a c)))
def s226(_:Nat):Hand:=fun a _ b c d e=>arg1 b fun b f=>arg0 f (newK [.str 0 0,.str 0 0,I 0,.nils] c d fun c=>forceN (Nat.succ d) fun f=>mJ (s226_0 a e d b) fun g=>a 225 [b,.str 4 1885956979] c f fun c f h=>cB c false (a 225 [b,.str 5 465490374508] f h fun c f h=>cB c (a 308 [b] f h fun c f g=>a 309 [b,.str 2 28265] f g fun _ f g=>a 132 [b] f g fun f g h=>Ev.layK 0 4 true f [.str 0 0,.str 0 0,I 0,.nils] fun f=>newK f g h fun f=>forceN (Nat.succ h) fun g=>mR (s226_1 a e d b) (appK 4 f g c (.sl h 0 1 (.known 1)))) (a 225 [b,.str 2 26217] f h fun c f h=>cB c (a 310 [b] f h fun a b c=>storeK 4 b (.ptr d 0) a fun _ a=>loadNK 4 a (.ptr d 0) fun b=>e b a c) (a 225 [b,.str 4 1702060387] f h fun c f h=>cB c false (a 225 [b,.str 4 1668248176] f h fun c f h=>cB c (a 309 [b,.str 1 123] f h fun _ c f=>a 312 [b] c f fun c f g=>newK [.str 0 0,.str 0 0,I 0,.nils] f g fun f=>forceN (Nat.succ g) fun h=>storeK 4 f (.ptr g 0) c fun _ c=>a 313 [b] c h fun c f h=>a 132 [b] f h fun f h i=>Ev.layK 0 4 true f [.str 0 0,.str 0 0,I 0,.nils] fun f=>newK f h i fun f=>forceN (Nat.succ i) fun h=>mR (s226_2 a e d g b) (appK 4 f h c (.sl i 0 1 (.known 1)))) (a 225 [b,.str 3 7239014] f h fun a b c=>cB a false (g [] b c)))))))
theorem h226:HO 226 s226:=hO 1 (T2 L0 (T2 (.one [] (T2 L0 (T2 .stop (T2 L0 (T2 (T2 L0 (T2 L0 (T2 L0 (T2 L0 (T2 L0 L0))))) (T2 L0 (T2 (T2 L0 L0) (T2 L0 (T2 .stop (T2 L0 (T2 (T2 L0 (T2 L0 (T2 L0 (T2 L0 (T2 L0 (T2 L0 L0)))))) (T2 L0 (T2 .stop L0))))))))))))) (T2 L0 L0))) Tryz.func226 Tryz.call226 fun N F G l H n k=>by kernel_rfl
def s227_0:KJ:=fun b c d=>arg1 b fun b e=>arg1 e fun e f=>arg1 f fun f _=>addI a (I 1) fun a=>j [a,b,e,f] c d
def s227_1:KR:=fun d e f=>pickK a d fF fun a=>cB a (k fT e f) (j [b,c,d] e f)
def s227_2:KR:=fun c d e=>jR a d e (s227_1 j k a b c) (F 307 [b,c] d e)
def s227_3:KR:=fun c d e=>jR b d e (s227_2 F j k b c) fun b=>b a d e
def s227_4:KJ→KJ:=fun c d e f=>arg1 d fun d g=>arg1 g fun _ g=>arg1 g fun _ g=>arg1 g fun _ _=>lssI d b fun b=>cB b (mJ (s227_0 c d) fun b=>iaddrK 1 (.sl n 0 14 (.known 14)) d fun c=>loadK e c fun c=>nilK a (faddrK 2 a fun d=>loadK e d fun d=>notB d fun d=>jR d e f (s227_3 F b k c d) fun b=>b a e f)) (j [] e f)
def s227_5:KQ:=fun b=>mJ (fun _ a b=>k fF a b) fun c=>iterN n (s227_4 F c k m a b) [I 0,.bad,.bad,.bad] H N
def s227_6:KJ:=fun _ b c=>AV.ckOne (.str 4 1885956979) (AV.ckOne (.str 5 465490374508) (AV.ckOne (.str 2 26217) (AV.ckOne (.str 4 1702060387) (AV.ckOne (.str 4 1668248176) (AV.ckOne (.str 3 7239014) (AV.ckOne (.str 6 110369476601972) (AV.ckOne (.str 3 7959156) (AV.ckOne (.str 5 435727982962) (AV.ckOne (.str 6 111546465216611) (AV.ckOne (.str 1 95) (AV.ckOne (.str 1 123) (AV.ckOne (.str 1 91) (AV.ckOne (.str 1 40) (newK [.str 4 1885956979,.str 5 465490374508,.str 2 26217,.str 4 1702060387,.str 4 1668248176,.str 3 7239014,.str 6 110369476601972,.str 3 7959156,.str 5 435727982962,.str 6 111546465216611,.str 1 95,.str 1 123,.str 1 91,.str 1 40] b c fun b=>forceN (Nat.succ c) fun d=>mQ (s227_5 F b k n c d a) (lenSl (.sl c 0 14 (.known 14)))))))))))))))))
def s227(a:Nat):Hand:=fun b _ c d e f=>arg1 c fun c g=>arg0 g (b 315 [c] d e fun d e g=>mJ (s227_6 b f a c) fun a=>eqlI d (I 1) fun b=>cB b false (eqlI d (I 2) fun b=>cB b false (eqlI d (I 3) fun b=>cB b (f fT e g) (a [] e g))))
theorem h227:HO 227 s227:=hO 1 (T2 L0 (T2 (T2 L0 (.one [] (T2 (T2 L0 (T2 .stop (T2 L0 (T2 .stop L0)))) (T2 (T2 L0 L0) L0)))) (T2 (T2 L0 (.one [] (.one [13,23,24,25] (T2 L0 (T2 (T2 L0 L0) (T2 (.one [23,24,25] (T2 L0 (T2 L0 (T2 (T2 L0 L0) L0)))) L0)))))) (T2 L0 L0)))) Tryz.func227 Tryz.call227 fun N F G l H n k=>by kernel_rfl
def s228_0:KR:=fun b c d=>pickK a b fF fun a=>k a c d
def s228_1:KR:=fun b c d=>jR a c d (s228_0 k a) (F 50 [b] c d)
def s228_2:KR:=fun b c d=>jR a c d (s228_1 F k a) fun a=>loadK c b fun b=>a b c d
def s228_3:KR:=fun b c d=>pickK a b fF fun a=>k a c d
def s228_4:KR:=fun b c d=>jR a c d (s228_3 k a) fun a=>leqI b (I 1099511627776) fun b=>a b c d
def s228_5:KR:=fun b c d=>jR a c d (s228_4 k a) fun a=>loadK c b fun b=>a b c d
def s228_6:KR:=fun c d e=>pickK b c fF fun b=>jR b d e (s228_5 k b) fun b=>faddrK 2 a fun a=>b a d e
def s228_7:KR:=fun c d e=>jR b d e (s228_6 k a b) fun a=>geqI c (.int .i64 (.negSucc 1099511627775)) fun b=>a b d e
def s228_8:KR:=fun c d e=>jR b d e (s228_7 k a b) fun a=>loadK d c fun b=>a b d e
def s228(_:Nat):Hand:=fun a _ b c d e=>arg1 b fun b f=>arg0 f (boxE b c d fun b c=>forceN (Nat.succ d) fun d=>faddrK 0 b fun f=>loadK c f fun f=>mJ (fun _ _ _=>false) fun _=>strB .eql f (.str 3 7496054) fun g=>cB g (loadNK 4 c b fun f=>a 230 [f,.bool true,.bool false,.bool false] c d fun c d f=>jR c d f (s228_2 a e c) fun a=>faddrK 1 b fun b=>a b d f) (strB .eql f (.str 3 7958113) fun g=>cB g false (strB .eql f (.str 3 7630441) fun f=>cB f (loadNK 4 c b fun f=>a 230 [f,.bool false,.bool true,.bool false] c d fun a c d=>jR a c d (s228_8 e b a) fun a=>faddrK 2 b fun b=>a b c d) false)))
theorem h228:HO 228 s228:=hO 1 (T2 L0 (T2 (T2 L0 (.one [] (T2 L0 (T2 (T2 L0 L0) (T2 L0 (T2 .stop (T2 L0 (T2 (T2 L0 L0) .stop)))))))) .stop)) Tryz.func228 Tryz.call228 fun N F G l H n k=>by kernel_rfl
def s229_0:KJ:=fun _ b c=>addI a (I 1) fun a=>j [a] b c
def s229_1:KJ→KJ:=fun _ b c d=>arg1 b fun b _=>lssI b a fun a=>cB a false (j [] c d)
def s229_2:KQ:=fun b=>lssI a b fun b=>cB b (mJ (s229_0 J a) fun b=>mJ (fun _ a c=>b [] a c) fun b=>iterN n (s229_1 b a) [I 0] H m) (j [] H m)
def s229_3:KJ→KJ:=fun b c d e=>arg1 c fun c _=>mQ (s229_2 j b d n e c) (lenSl a)
def s229(a:Nat):Hand:=fun _ _ b c d e=>arg1 b fun b f=>arg0 f (mJ (fun _ a b=>e fT a b) fun e=>iterN a (s229_3 e a b) [I 0] c d)
theorem h229:HO 229 s229:=hO 1 (T2 L0 (T2 (T2 L0 (.one [] (.one [3] (T2 (T2 L0 (T2 L0 L0)) (T2 (.one [] (T2 L0 (.one [] (.one [4] (T2 (T2 L0 (T2 .stop L0)) .stop))))) L0))))) (T2 L0 L0))) Tryz.func229 Tryz.call229 fun N F G l H n k=>by kernel_rfl
def s230_0:KR:=fun b c d=>pickK a b fF fun a=>k a c d
def s230_1:KR:=fun c d e=>jR a d e (s230_0 k a) fun a=>pickK b fT c fun b=>a b d e
def s230_2:KR:=fun c d e=>jRn b d e (s230_1 k a b) fun a=>eqlI c (I 0) fun b=>a b d e
def s230_3:KR:=fun c d e=>jRn b d e (s230_2 k a b) fun a=>mQ (fun b=>a b d e) (lenSl c)
def s230_4:KR:=fun c d e=>jRn b d e (s230_3 k a b) fun a=>loadK d c fun b=>a b d e
def s230_5:KR:=fun c d e=>jRn c d e (s230_4 k a c) fun a=>faddrK 3 b fun b=>a b d e
def s230_6:KR:=fun c d e=>jR a d e (s230_5 k a b) fun a=>a c d e
def s230_7:KR:=fun d e f=>pickK a d fF fun a=>jR a e f (s230_6 k a c) fun a=>a b e f
def s230_8:KR:=fun e f g=>jR a f g (s230_7 k a c d) fun a=>pickK b fT e fun b=>a b f g
def s230_9:KR:=fun e f g=>jRn b f g (s230_8 k a b c d) fun a=>eqlI e (I 0) fun b=>a b f g
def s230_10:KR:=fun e f g=>jRn b f g (s230_9 k a b c d) fun a=>loadK f e fun b=>a b f g
def s230_11:KR:=fun d e f=>jRn d e f (s230_10 k a d b c) fun a=>faddrK 2 c fun b=>a b e f
def s230_12:KR:=fun d e f=>jR a e f (s230_11 k a b c) fun a=>a d e f
def s230_13:KR:=fun e f g=>pickK a fT e fun a=>jR a f g (s230_12 k a c d) fun a=>a b f g
def s230_14:KR:=fun e f g=>jRn a f g (s230_13 k a b c d) fun a=>strB .eql e (.str 0 0) fun b=>a b f g
def s230_15:KR:=fun e f g=>jRn a f g (s230_14 k a b c d) fun a=>loadK f e fun b=>a b f g
def s230(_:Nat):Hand:=fun _ _ a b c d=>arg1 a fun a e=>arg1 e fun e f=>arg1 f fun f g=>arg1 g fun g h=>arg0 h (boxE a b c fun a b=>forceN (Nat.succ c) fun c=>jRn e b c (s230_15 d e f g a) fun d=>faddrK 1 a fun a=>d a b c)
theorem h230:HO 230 s230:=hO 4 (T2 L0 (T2 L0 L0)) Tryz.func230 Tryz.call230 fun N F G l H n k=>by kernel_rfl
def s231_0:KR:=fun b c d=>pickK a fT b fun a=>k a c d
def s231_1:KR:=fun c d e=>jRn a d e (s231_0 k a) fun a=>pickK b c fF fun b=>a b d e
def s231_2:KR:=fun c d e=>jR b d e (s231_1 k a b) fun a=>leqI c (.int .u8 (.ofNat 122)) fun b=>a b d e
def s231_3:KR:=fun c d e=>jR b d e (s231_2 k a b) fun a=>indexStrK c (I 0) fun b=>a b d e
def s231_4:KR:=fun c d e=>jR c d e (s231_3 k b c) fun b=>b a d e
def s231_5:KR:=fun c d e=>jRn b d e (s231_4 k a b) fun a=>a c d e
def s231_6:KR:=fun d e f=>jRn b e f (s231_5 k a b) fun a=>pickK c d fF fun b=>a b e f
def s231_7:KR:=fun d e f=>jR c e f (s231_6 k a b c) fun a=>geqI d (.int .u8 (.ofNat 97)) fun b=>a b e f
def s231_8:KR:=fun d e f=>jR c e f (s231_7 k a b c) fun a=>indexStrK d (I 0) fun b=>a b e f
def s231_9:KR:=fun c d e=>jR c d e (s231_8 k a b c) fun b=>b a d e
def s231_10:KR:=fun c d e=>jRn b d e (s231_9 k a b) fun a=>a c d e
def s231_11:KR:=fun c d e=>jRn b d e (s231_10 k a b) (F 138 [c] d e)
def s231_12:KR:=fun c d e=>pickK b fT c fun b=>jRn b d e (s231_11 F k a b) fun b=>b a d e
def s231_13:KR:=fun c d e=>jRn b d e (s231_12 F k a b) fun a=>strB .eql c (.str 1 35) fun b=>a b d e
def s231(_:Nat):Hand:=fun a _ b c d e=>arg1 b fun b f=>arg0 f (strB .eql b (.str 1 124) fun f=>jRn f c d (s231_13 a e b f) fun a=>a b c d)
theorem h231:HO 231 s231:=hO 1 (T2 L0 (T2 L0 L0)) Tryz.func231 Tryz.call231 fun N F G l H n k=>by kernel_rfl
def s233_0:KR:=fun b c d=>pickK a fT b fun a=>k a c d
def s233_1:KR:=fun b c d=>jRn a c d (s233_0 k a) fun a=>eqlI b (.int .u8 (.ofNat 95)) fun b=>a b c d
def s233_2:KR:=fun c d e=>pickK b fT c fun b=>jRn b d e (s233_1 k b) fun b=>b a d e
def s233_3:KR:=fun d e f=>jRn b e f (s233_2 k a b) fun a=>pickK c d fF fun b=>a b e f
def s233_4:KR:=fun d e f=>jR c e f (s233_3 k a b c) fun a=>leqI d (.int .u8 (.ofNat 57)) fun b=>a b e f
def s233_5:KR:=fun c d e=>jR c d e (s233_4 k a b c) fun b=>b a d e
def s233_6:KR:=fun c d e=>jRn b d e (s233_5 k a b) fun a=>a c d e
def s233_7:KR:=fun c d e=>jRn b d e (s233_6 k a b) fun a=>geqI c (.int .u8 (.ofNat 48)) fun b=>a b d e
def s233_8:KR:=fun c d e=>pickK b fT c fun b=>jRn b d e (s233_7 k a b) fun b=>b a d e
def s233_9:KR:=fun d e f=>jRn b e f (s233_8 k a b) fun a=>pickK c d fF fun b=>a b e f
def s233_10:KR:=fun d e f=>jR c e f (s233_9 k a b c) fun a=>leqI d (.int .u8 (.ofNat 90)) fun b=>a b e f
def s233_11:KR:=fun c d e=>jR c d e (s233_10 k a b c) fun b=>b a d e
def s233_12:KR:=fun c d e=>jRn b d e (s233_11 k a b) fun a=>a c d e
def s233_13:KR:=fun c d e=>jRn b d e (s233_12 k a b) fun a=>geqI c (.int .u8 (.ofNat 65)) fun b=>a b d e
def s233_14:KR:=fun c d e=>pickK b c fF fun b=>jRn b d e (s233_13 k a b) fun b=>b a d e
def s233_15:KR:=fun c d e=>jR b d e (s233_14 k a b) fun a=>leqI c (.int .u8 (.ofNat 122)) fun b=>a b d e
def s233(_:Nat):Hand:=fun _ _ a b c d=>arg1 a fun a e=>arg0 e (geqI a (.int .u8 (.ofNat 97)) fun e=>jR e b c (s233_15 d a e) fun d=>d a b c)
theorem h233:HO 233 s233:=hO 1 (T2 L0 (T2 L0 L0)) Tryz.func233 Tryz.call233 fun N F G l H n k=>by kernel_rfl
def s234_0:KJ:=fun d e f=>arg1 d fun d _=>cB d (loadNK 4 e c fun c=>F 316 [a,c,b] e f k) false
def s234(_:Nat):Hand:=fun a _ b c d e=>arg1 b fun b f=>arg1 f fun f g=>arg1 g fun g h=>arg0 h (boxE f c d fun c f=>forceN (Nat.succ d) fun d=>faddrK 0 c fun h=>loadK f h fun h=>mJ (fun _ _ _=>false) fun _=>strB .eql h (.str 3 7496054) fun i=>cB i (faddrK 1 c fun c=>loadK f c fun c=>a 142 [b,c] f d fun c d f=>AV.ckOne g (AV.ckOne c (newK [g,c] d f fun c=>forceN (Nat.succ f) fun d=>AV.ckOne (.str 4 1684957538) (AV.ckOne (.sl f 0 2 (.known 2)) (a 139 [b,.agg [.str 4 1684957538,.sl f 0 2 (.known 2),.str 0 0,I 0,.nils,.nils]] c d e))))) (strB .eql h (.str 3 7958113) fun i=>cB i false (strB .eql h (.str 3 7630441) fun i=>cB i (AV.ckOne g (newK [g] f d fun f=>forceN (Nat.succ d) fun g=>faddrK 2 c fun c=>loadK f c fun c=>AV.ckOne (.str 3 7630441) (AV.ckOne (.sl d 0 1 (.known 1)) (AV.ckOne c (a 139 [b,.agg [.str 3 7630441,.sl d 0 1 (.known 1),.str 0 0,c,.nils,.nils]] f g e))))) (strB .eql h (.str 4 1836020833) fun i=>cB i false (mJ (s234_0 a e b g c) fun a=>strB .eql h (.str 5 435611006324) fun b=>cB b (a [b] f d) (strB .eql h (.str 2 28783) fun b=>cB b (a [b] f d) false))))))
theorem h234:HO 234 s234:=hO 3 (T2 L0 (T2 (T2 L0 (.one [] (T2 L0 (T2 (T2 L0 (T2 L0 L0)) (T2 L0 (T2 .stop (T2 L0 (T2 (T2 L0 L0) (T2 L0 (T2 .stop (.join [52] (T2 L0 (T2 L0 (T2 L0 (T2 L0 .stop)))) (T2 (T2 L0 L0) .stop)))))))))))) .stop)) Tryz.func234 Tryz.call234 fun N F G l H n k=>by kernel_rfl
def s236(_:Nat):Hand:=fun _ _ a b c d=>arg1 a fun a e=>arg0 e (mulI a (I 78913) fun a=>shiftE .shr a (.int .u64 (.ofNat 18)) fun a=>d a b c)
theorem h236:HO 236 s236:=hO 1 (T2 L0 (T2 L0 L0)) Tryz.func236 Tryz.call236 fun N F G l H n k=>by kernel_rfl
def s237(_:Nat):Hand:=fun _ _ a b c d=>arg1 a fun a e=>arg0 e (geqI a (.int .u64 (.ofNat 4294967296)) fun e=>cB e false (geqI a (.int .u64 (.ofNat 65536)) fun e=>cB e false (geqI a (.int .u64 (.ofNat 256)) fun e=>cB e false (convI .u8 a fun a=>indexStrK (.str 256 1013866857139168856493015739252390649739422828853819106890363778118420553376247557433637691341895324351018602695588957474325319502760499485336098898398377509666851054660423406800006203933793007272033180812049178612605246075062580585469430410618860250057463399279570354286669047577758927328864388992123306212451509403152394148136105363817402562688186708175358218852349079190158732807302672745370040257219644697201681238697346923541678507645485296520536209706771857694240900605172937619415410180424934769249448772944216470541052485265558808433676546390051204254346932932316488017972311616136051587427851453983453479168) a fun a=>convI .i64 a fun a=>addI (I 0) a fun a=>d a b c))))
theorem h237:HO 237 s237:=hO 1 (T2 L0 (T2 (T2 L0 (T2 .stop L0)) (T2 (T2 L0 (T2 .stop L0)) (T2 (T2 L0 (T2 .stop L0)) (T2 L0 L0))))) Tryz.func237 Tryz.call237 fun N F G l H n k=>by kernel_rfl
def s238(_:Nat):Hand:=fun _ _ a b c d=>arg1 a fun a e=>arg0 e (cB a (d (I 1) b c) false)
theorem h238:HO 238 s238:=hO 1 (T2 L0 (T2 (T2 L0 (T2 (T2 L0 L0) .stop)) .stop)) Tryz.func238 Tryz.call238 fun N F G l H n k=>by kernel_rfl
def s241_0:KR:=fun b c d=>pickK a fT b fun a=>k a c d
def s241_1:KR:=fun b c d=>jRn a c d (s241_0 k a) fun a=>eqlI b (.int .u8 (.ofNat 95)) fun b=>a b c d
def s241_2:KR:=fun c d e=>pickK b fT c fun b=>jRn b d e (s241_1 k b) fun b=>b a d e
def s241_3:KR:=fun d e f=>jRn b e f (s241_2 k a b) fun a=>pickK c d fF fun b=>a b e f
def s241_4:KR:=fun d e f=>jR c e f (s241_3 k a b c) fun a=>leqI d (.int .u8 (.ofNat 57)) fun b=>a b e f
def s241_5:KR:=fun c d e=>jR c d e (s241_4 k a b c) fun b=>b a d e
def s241_6:KR:=fun c d e=>jRn b d e (s241_5 k a b) fun a=>a c d e
def s241_7:KR:=fun c d e=>jRn b d e (s241_6 k a b) fun a=>geqI c (.int .u8 (.ofNat 48)) fun b=>a b d e
def s241_8:KR:=fun c d e=>pickK b fT c fun b=>jRn b d e (s241_7 k a b) fun b=>b a d e
def s241_9:KR:=fun d e f=>jRn b e f (s241_8 k a b) fun a=>pickK c d fF fun b=>a b e f
def s241_10:KR:=fun d e f=>jR c e f (s241_9 k a b c) fun a=>leqI d (.int .u8 (.ofNat 90)) fun b=>a b e f
def s241_11:KR:=fun c d e=>jR c d e (s241_10 k a b c) fun b=>b a d e
def s241_12:KR:=fun c d e=>jRn b d e (s241_11 k a b) fun a=>a c d e
def s241_13:KR:=fun c d e=>jRn b d e (s241_12 k a b) fun a=>geqI c (.int .u8 (.ofNat 65)) fun b=>a b d e
def s241_14:KR:=fun c d e=>pickK b c fF fun b=>jRn b d e (s241_13 k a b) fun b=>b a d e
def s241_15:KR:=fun c d e=>jR b d e (s241_14 k a b) fun a=>leqI c (.int .u8 (.ofNat 122)) fun b=>a b d e
def s241(_:Nat):Hand:=fun _ _ a b c d=>arg1 a fun a e=>arg0 e (geqI a (.int .u8 (.ofNat 97)) fun e=>jR e b c (s241_15 d a e) fun d=>d a b c)
theorem h241:HO 241 s241:=hO 1 (T2 L0 (T2 L0 L0)) Tryz.func241 Tryz.call241 fun N F G l H n k=>by kernel_rfl
def s242_0:KJ:=fun _ a b=>k (.int .i64 (.negSucc 0)) a b
def s242_1:KJ:=fun _ b c=>addI a (I 1) fun a=>j [a] b c
def s242_2:KJ→KJ:=fun d e f g=>arg1 e fun e _=>lssI e c fun c=>cB c (mJ (s242_1 d e) fun c=>iaddrK 1 a e fun a=>loadK f a fun a=>strB .eql b a fun a=>cB a (k e f g) (c [] f g)) (j [] f g)
def s242_3:KQ:=fun c=>mJ (s242_0 k) fun d=>iterN n (s242_2 d k a b c) [I 0] H m
def s242(a:Nat):Hand:=fun _ _ b c d e=>arg1 b fun b f=>arg1 f fun f g=>arg0 g (mQ (s242_3 c e a d b f) (lenSl b))
theorem h242:HO 242 s242:=hO 2 (T2 L0 (T2 (T2 L0 (.one [] (.one [8] (T2 L0 (T2 (T2 L0 L0) (T2 (.one [] (T2 L0 (T2 L0 (T2 (T2 L0 L0) L0)))) L0)))))) (T2 L0 L0))) Tryz.func242 Tryz.call242 fun N F G l H n k=>by kernel_rfl
def s245_0:KJ:=fun _ a b=>k (.int .i64 (.negSucc 0)) a b
def s245_1:KJ:=fun _ b c=>addI a (I 1) fun a=>j [a] b c
def s245_2:KJ→KJ:=fun d e f g=>arg1 e fun e _=>lssI e c fun c=>cB c (mJ (s245_1 d e) fun c=>iaddrK 1 a e fun a=>loadK f a fun a=>eqlI b a fun a=>cB a (k e f g) (c [] f g)) (j [] f g)
def s245_3:KQ:=fun c=>mJ (s245_0 k) fun d=>iterN n (s245_2 d k a b c) [I 0] H m
def s245(a:Nat):Hand:=fun _ _ b c d e=>arg1 b fun b f=>arg1 f fun f g=>arg0 g (mQ (s245_3 c e a d b f) (lenSl b))
theorem h245:HO 245 s245:=hO 2 (T2 L0 (T2 (T2 L0 (.one [] (.one [8] (T2 L0 (T2 (T2 L0 L0) (T2 (.one [] (T2 L0 (T2 L0 (T2 (T2 L0 L0) L0)))) L0)))))) (T2 L0 L0))) Tryz.func245 Tryz.call245 fun N F G l H n k=>by kernel_rfl
def s247(_:Nat):Hand:=fun _ _ a b c d=>arg1 a fun a e=>arg1 e fun e f=>arg0 f (bitI .and a (.int .u64 (.ofNat 4294967295)) fun f=>shiftE .shr a (.int .u64 (.ofNat 32)) fun g=>bitI .and e (.int .u64 (.ofNat 4294967295)) fun h=>shiftE .shr e (.int .u64 (.ofNat 32)) fun i=>mulI f h fun j=>mulI g h fun h=>shiftE .shr j (.int .u64 (.ofNat 32)) fun j=>addI h j fun h=>bitI .and h (.int .u64 (.ofNat 4294967295)) fun j=>shiftE .shr h (.int .u64 (.ofNat 32)) fun h=>mulI f i fun f=>addI j f fun f=>mulI g i fun g=>addI g h fun g=>shiftE .shr f (.int .u64 (.ofNat 32)) fun f=>addI g f fun f=>mulI a e fun a=>AV.ckOk f (AV.ckOk a (d (.tup [f,a]) b c)))
theorem h247:HO 247 s247:=hO 2 (T2 L0 (T2 L0 (T2 L0 (T2 L0 (T2 L0 (T2 L0 (T2 L0 (T2 L0 (T2 L0 (T2 L0 (T2 L0 (T2 L0 L0)))))))))))) Tryz.func247 Tryz.call247 fun N F G l H n k=>by kernel_rfl
def s248_0:KJ:=fun _ b c=>subI a (I 1) fun a=>j [a] b c
def s248_1:KJ→KJ:=fun c d e f=>arg1 d fun d _=>geqI d (I 0) fun g=>cB g (mJ (s248_0 c d) fun c=>loadK e b fun b=>iaddrK 1 b d fun b=>loadK e b fun b=>callV F G a [d,b] e f fun a b d=>notB a fun a=>cB a false (c [] b d)) (j [] e f)
def s248_2:KQ:=fun c=>subI c (I 1) fun c=>mJ (fun _ a b=>k (.tup []) a b) fun d=>iterN n (s248_1 F G d a b) [c] H m
def s248(a:Nat):Hand:=fun b c d e f g=>arg1 d fun d h=>arg1 h fun h i=>arg0 i (loadK e h fun i=>mQ (s248_2 b c e g a f d h) (lenSl i))
theorem h248:HO 248 s248:=hO 2 (T2 L0 (.one [] (.one [3] (T2 (T2 L0 (T2 L0 L0)) (T2 (.one [] (T2 L0 (T2 .stop L0))) L0))))) Tryz.func248 Tryz.call248 fun N F G l H n k=>by kernel_rfl
def s249_0:KJ:=fun a b c=>arg1 a fun a _=>AV.ckOk a (AV.ckOk fT (k (.tup [a,.bool true]) b c))
def s249_1:KJ:=fun b c d=>arg1 b fun b e=>arg1 e fun e f=>arg1 f fun f g=>arg1 g fun g h=>arg1 h fun h _=>addI a (I 1) fun a=>j [b,e,a,f,g,h] c d
def s249_2:KR:=fun e f g=>j [e,d,a,b,c] f g
def s249_3:KR:=fun g h i=>pickK b g fF fun b=>cB b false (faddrK 0 (.ptr n 0) fun b=>loadK h b fun b=>faddrK 1 (.ptr n 0) fun l=>loadK h l fun l=>F 321 [a,b,l] h i fun a b h=>AV.ckOne a (newK [a] b h fun a=>forceN (Nat.succ h) fun b=>mR (s249_2 j c d g f) (appK 1 a b e (.sl h 0 1 (.known 1)))))
def s249_4:KR:=fun f g h=>jR b g h (s249_3 F j n a b c f d e) fun a=>neqI f (I 0) fun b=>a b g h
def s249_5:KR:=fun e f g=>jR b f g (s249_4 F j n a b e c d) fun a=>loadK f e fun b=>a b f g
def s249_6:KQ:=fun e=>lssI d e fun e=>cB e (mJ (s249_1 J d) fun e=>forceN (Nat.add n 1) fun f=>iaddrK 2 c d fun g=>faddrK 0 g fun g=>loadK H g fun g=>F 38 [a,g] H f fun f g h=>iaddrK 2 c d fun d=>faddrK 1 d fun d=>loadK g d fun i=>F 38 [a,i] g h fun h j l=>AV.ckOne f (AV.ckOne h (forceN (Nat.add n 0) fun m=>newK [I 0,I 0] j m fun o=>at_ o m fun o=>hput j m o fun o=>storeK 2 o (.ptr m 0) (.agg [f,h]) fun _ f=>loadK H d fun d=>ifB (sameF 8 d i) (at_ g m fun d=>Blk.ckDead d (at_ j m fun d=>Blk.ckDead d (loadNK 2 f (.ptr m 0) fun d=>faddrK 0 (.ptr m 0) fun g=>loadK f g fun g=>faddrK 0 (.ptr m 0) fun h=>loadK f h fun h=>AV.ckOne g (AV.ckOne h (eqA [0,1] .eql d (.agg [g,h]) fun d=>cB d false (forceN (Nat.add l 2) fun d=>nilK a (faddrK 1 a fun g=>loadK f g fun g=>faddrK 0 (.ptr m 0) fun h=>loadK f h fun h=>iaddrK 4 g h fun g=>loadNK 4 f g fun g=>nilK a (faddrK 1 a fun h=>loadK f h fun i=>faddrK 1 (.ptr m 0) fun j=>loadK f j fun o=>iaddrK 4 i o fun p=>loadNK 4 f p fun q=>forceN (Nat.add l 0) fun r=>newK [I 0,I 0,.str 0 0,.nils] f r fun s=>at_ s r fun s=>forceN (Nat.add l 1) fun l=>newK [I 0,I 0,.str 0 0,.nils] f l fun t=>at_ t l fun t=>hput f r s fun f=>hput f l t fun f=>storeK 4 f (.ptr r 0) g fun _ f=>storeK 4 f (.ptr l 0) q fun _ g=>loadK f h fun h=>ifB (sameF 8 h i) (loadK f j fun h=>ifB (sameF 8 h o) (loadNK 4 f p fun f=>ifB (sameF 8 f q) (faddrK 0 (.ptr r 0) fun f=>loadK g f fun f=>neqI f (I 0) fun f=>jR f g d (s249_5 F e m a f b c) fun a=>faddrK 0 (.ptr l 0) fun b=>a b g d)))))))))))))) (j [b] H n)
def s249_7:KJ→KJ:=fun b c d e=>arg1 c fun c f=>arg1 f fun f g=>arg1 g fun g h=>arg1 h fun _ h=>arg1 h fun _ h=>arg1 h fun _ _=>mQ (s249_6 F j b d e a c f g) (lenSl f)
def s249(a:Nat):Hand:=fun b _ c d e f=>arg1 c fun c g=>arg1 g fun g h=>arg1 h fun h i=>arg0 i (AV.ckOne g (AV.ckOne h (Ev.layK 0 2 true (.agg [g,h]) [I 0,I 0] fun g=>newK g d e fun d=>forceN (Nat.succ e) fun g=>mJ (s249_0 f) fun f=>iterN a (s249_7 b f c) [.nils,.sl e 0 1 (.known 1),I 0,.bad,.bad,.bad] d g)))
theorem h249:HO 249 s249:=hO 3 (T2 L0 (T2 L0 (T2 L0 (T2 (T2 L0 (.one [8] (.one [8,9,10,67,68,69] (T2 (T2 L0 (T2 L0 L0)) (T2 (.one [8,9,67,68,69] (T2 L0 (T2 (T2 L0 (T2 .stop L0)) (T2 L0 (T2 (T2 L0 (T2 .stop L0)) L0))))) L0))))) (T2 L0 L0))))) Tryz.func249 Tryz.call249 fun N F G l H n k=>by kernel_rfl
def s251_0:KR:=fun _ c d=>AV.ckOk a (F 168 [b,.fn (.func 322) [] [a]] c d fun a b c=>F 123 [a] b c fun _ b c=>k a b c)
def s251_1:KQ:=fun c=>mkslK [I 0] c c H n fun c d=>forceN (Nat.succ n) fun e=>mR (s251_0 F k b c) fun b=>cpyK 1 d c a fun a c=>b a c e
def s251(_:Nat):Hand:=fun a _ b c d e=>arg1 b fun b f=>arg1 f fun f g=>arg0 g (boxE b c d fun b c=>forceN (Nat.succ d) fun d=>mQ (s251_1 a c e d f b) (lenSl f))
theorem h251:HO 251 s251:=hO 2 (T2 L0 (T2 L0 (T2 L0 (T2 L0 (T2 L0 (T2 L0 L0)))))) Tryz.func251 Tryz.call251 fun N F G l H n k=>by kernel_rfl
def s252_0:KR:=fun b c d=>pickK a b fF fun a=>k a c d
def s252_1:KR:=fun b c d=>jR a c d (s252_0 k a) fun a=>leqI b (I 1099511627776) fun b=>a b c d
def s252(_:Nat):Hand:=fun _ _ a b c d=>arg1 a fun a e=>arg0 e (loadK b a fun e=>geqI e (.int .i64 (.negSucc 1099511627775)) fun e=>jR e b c (s252_1 d e) fun d=>loadK b a fun a=>d a b c)
theorem h252:HO 252 s252:=hO 1 (T2 L0 (T2 L0 L0)) Tryz.func252 Tryz.call252 fun N F G l H n k=>by kernel_rfl
def s253_0:KR:=fun b c d=>pickK a b fF fun a=>k a c d
def s253_1:KR:=fun b c d=>jR a c d (s253_0 k a) fun a=>notB b fun b=>a b c d
def s253_2:KR:=fun c d e=>jR a d e (s253_1 k a) (F 64 [b,c] d e)
def s253_3:KR:=fun c d e=>jR a d e (s253_2 F k a c) fun a=>AV.ckOk b (a (.fn (.func 254) [] [b]) d e)
def s253_4:KR:=fun d e f=>pickK b d fF fun b=>jR b e f (s253_3 F k b c) fun b=>loadK e a fun a=>b a e f
def s253_5:KR:=fun d e f=>jR b e f (s253_4 F k a b c) fun a=>leqI d (I 8) fun b=>a b e f
def s253_6:KR:=fun d e f=>jR b e f (s253_5 F k a b c) fun a=>mQ (fun b=>a b e f) (lenSl d)
def s253_7:KR:=fun d e f=>pickK c d fF fun c=>jR c e f (s253_6 F k a c b) fun b=>loadK e a fun a=>b a e f
def s253_8:KR:=fun d e f=>jR c e f (s253_7 F k a b c) fun a=>geqI d (I 1) fun b=>a b e f
def s253_9:KR:=fun d e f=>jR c e f (s253_8 F k a b c) fun a=>mQ (fun b=>a b e f) (lenSl d)
def s253(_:Nat):Hand:=fun a _ b c d e=>arg1 b fun b f=>arg1 f fun f g=>arg1 g fun g h=>arg0 h (loadK c b fun b=>a 160 [b] c d fun b c d=>jR b c d (s253_9 a e f g b) fun a=>loadK c f fun b=>a b c d)
theorem h253:HO 253 s253:=hO 3 (T2 L0 (T2 L0 L0)) Tryz.func253 Tryz.call253 fun N F G l H n k=>by kernel_rfl
def s254(_:Nat):Hand:=fun a _ b c d e=>arg1 b fun b f=>arg1 f fun f g=>arg0 g (loadK c f fun f=>a 125 [f,b] c d fun a b c=>notB a fun a=>e a b c)
theorem h254:HO 254 s254:=hO 2 (T2 L0 (T2 L0 L0)) Tryz.func254 Tryz.call254 fun N F G l H n k=>by kernel_rfl
def s255(_:Nat):Hand:=fun a _ b c d e=>arg1 b fun b f=>arg1 f fun f g=>arg1 g fun g h=>arg1 h fun h i=>arg0 i (boxE b c d fun b c=>forceN (Nat.succ d) fun d=>boxE g c d fun c g=>forceN (Nat.succ d) fun d=>boxE h g d fun g h=>forceN (Nat.succ d) fun d=>newK [I 0,I 0] h d fun h=>forceN (Nat.succ d) fun i=>loadK h b fun j=>AV.ckOk b (AV.ckOk c (AV.ckOk g (a 181 [j,f,.fn (.func 324) [] [b,c,g]] h i fun a b c=>storeK 2 b (.ptr d 0) a fun _ a=>loadNK 2 a (.ptr d 0) fun b=>e b a c))))
theorem h255:HO 255 s255:=hO 4 (T2 L0 (T2 L0 L0)) Tryz.func255 Tryz.call255 fun N F G l H n k=>by kernel_rfl
def s256_0:KR:=fun b c d=>pickK a b fF fun a=>cB a (faddrK 1 (.ptr m 0) fun a=>loadK c a fun a=>loadNK 2 c (.ptr 0 0) fun b=>storeK 2 c (.ptr n 0) b fun _ b=>loadNK 2 b (.ptr n 0) fun c=>AV.ckOk a (AV.ckOk c (k (.tup [a,c]) b d))) false
def s256_1:KR:=fun c d e=>jR a d e (s256_0 k n m a) fun a=>strB .eql b c fun b=>a b d e
def s256_2:KR:=fun c d e=>jR a d e (s256_1 k n m a c) fun a=>a b d e
def s256_3:KR:=fun c d e=>jR a d e (s256_2 k n m a b) fun a=>loadK d c fun b=>a b d e
def s256(_:Nat):Hand:=fun a _ b c d e=>arg1 b fun b f=>arg1 f fun f g=>arg1 g fun g h=>arg0 h (newK [I 0,I 0] c d fun c=>forceN (Nat.succ d) fun h=>a 126 [b,f] c h fun c h i=>neqI c (.int .i64 (.negSucc 0)) fun c=>cB c false (a 114 [b,f] h i fun a b c=>newK [I 0,I 0,.str 0 0,.nils] b c fun b=>forceN (Nat.succ c) fun f=>storeK 4 b (.ptr c 0) a fun _ a=>faddrK 0 (.ptr c 0) fun b=>loadK a b fun b=>eqlI b (I 4) fun b=>jR b a f (s256_3 e d c b g) fun b=>faddrK 2 (.ptr c 0) fun c=>b c a f))
theorem h256:HO 256 s256:=hO 3 (T2 L0 (T2 (T2 L0 (T2 L0 (T2 .stop L0))) (T2 (T2 L0 (T2 L0 (T2 (T2 L0 L0) .stop))) .stop))) Tryz.func256 Tryz.call256 fun N F G l H n k=>by kernel_rfl
def s257(_:Nat):Hand:=fun _ _ a b c d=>arg1 a fun a e=>arg0 e (AV.ckOne (I 1) (AV.ckOne (I 2) (AV.ckOne (I 2) (AV.ckOne (I 3) (AV.ckOne (I 2) (AV.ckOne (I 2) (AV.ckOne (I 1) (AV.ckOne (I 2) (AV.ckOne (I 2) (AV.ckOne (I 3) (newK [I 1,I 2,I 2,I 3,I 2,I 2,I 1,I 2,I 2,I 3] b c fun b=>forceN (Nat.succ c) fun e=>iaddrK 1 (.sl c 0 10 (.known 10)) a fun a=>loadK b a fun a=>d a b e)))))))))))
theorem h257:HO 257 s257:=hO 1 (T2 L0 (T2 L0 L0)) Tryz.func257 Tryz.call257 fun N F G l H n k=>by kernel_rfl
def s263_0:KJ:=fun _ a b=>k (.int .i64 (.negSucc 0)) a b
def s263_1:KJ→KJ:=fun _ b c d=>arg1 b fun b _=>lssI b a fun a=>cB a false (j [] c d)
def s263_2:KQ:=fun a=>mJ (s263_0 k) fun b=>iterN n (s263_1 b a) [I 0] H m
def s263(a:Nat):Hand:=fun _ _ b c d e=>arg1 b fun b f=>arg1 f fun _ f=>arg0 f (mQ (s263_2 c e a d) (lenSl b))
theorem h263:HO 263 s263:=hO 2 (T2 L0 (T2 (T2 L0 (.one [] (.one [8] (T2 L0 (T2 (T2 .stop L0) .stop))))) (T2 L0 L0))) Tryz.func263 Tryz.call263 fun N F G l H n k=>by kernel_rfl
def s265_0:KR:=fun b c d=>pickK a fT b fun a=>k a c d
def s265_1:KR:=fun c d e=>jRn a d e (s265_0 k a) fun a=>lssI b c fun b=>a b d e
def s265_2:KR:=fun c d e=>jRn a d e (s265_1 k a c) fun a=>a b d e
def s265_3:KR:=fun d e f=>pickK c d fF fun c=>jRn c e f (s265_2 k c b) fun b=>b a e f
def s265_4:KR:=fun d e f=>jR c e f (s265_3 k a b c) fun a=>notB d fun b=>a b e f
def s265_5:KR:=fun d e f=>jR c e f (s265_4 k a b c) (F 327 [d] e f)
def s265(_:Nat):Hand:=fun a _ b c d e=>arg1 b fun b f=>arg1 f fun f g=>arg0 g (a 327 [b] c d fun c d g=>jR c d g (s265_5 a e b f c) fun a=>a f d g)
theorem h265:HO 265 s265:=hO 2 (T2 L0 (T2 L0 L0)) Tryz.func265 Tryz.call265 fun N F G l H n k=>by kernel_rfl
def s267(_:Nat):Hand:=fun a _ b c d e=>arg1 b fun b f=>arg1 f fun f g=>arg0 g (a 328 [b,f] c d fun a b c=>geqI a (I 0) fun a=>e a b c)
theorem h267:HO 267 s267:=hO 2 (T2 L0 (T2 L0 L0)) Tryz.func267 Tryz.call267 fun N F G l H n k=>by kernel_rfl
def s268_0:KQ:=fun b=>F 269 [a,b] H n fun a b c=>notB a fun a=>k a b c
def s268(_:Nat):Hand:=fun a _ b c d e=>arg1 b fun b f=>arg1 f fun f g=>arg0 g (boxE b c d fun b c=>forceN (Nat.succ d) fun d=>loadNK 4 c b fun b=>faddrK 0 f fun f=>loadK c f fun f=>mQ (s268_0 a c e d b) (lenSl f))
theorem h268:HO 268 s268:=hO 2 (T2 L0 (T2 L0 L0)) Tryz.func268 Tryz.call268 fun N F G l H n k=>by kernel_rfl
def s269_0:KR:=fun b c d=>pickK a b fF fun a=>k a c d
def s269_1:KR:=fun b c d=>jR a c d (s269_0 k a) fun a=>eqlI b (I 0) fun b=>a b c d
def s269_2:KR:=fun b c d=>jR a c d (s269_1 k a) fun a=>mQ (fun b=>a b c d) (lenSl b)
def s269_3:KR:=fun b c d=>jR a c d (s269_2 k a) fun a=>loadK c b fun b=>a b c d
def s269_4:KR:=fun c d e=>pickK a c fF fun a=>jR a d e (s269_3 k a) fun a=>faddrK 3 b fun b=>a b d e
def s269_5:KR:=fun c d e=>jR a d e (s269_4 k a b) fun a=>strB .eql c (.str 0 0) fun b=>a b d e
def s269_6:KR:=fun c d e=>jR a d e (s269_5 k a b) fun a=>loadK d c fun b=>a b d e
def s269_7:KR:=fun b c d=>pickK a b fF fun a=>k a c d
def s269_8:KR:=fun b c d=>jR a c d (s269_7 k a) fun a=>eqlI b (I 0) fun b=>a b c d
def s269_9:KR:=fun b c d=>jR a c d (s269_8 k a) fun a=>mQ (fun b=>a b c d) (lenSl b)
def s269_10:KR:=fun b c d=>jR a c d (s269_9 k a) fun a=>loadK c b fun b=>a b c d
def s269_11:KR:=fun c d e=>pickK b c fF fun b=>jR b d e (s269_10 k b) fun b=>faddrK 3 a fun a=>b a d e
def s269_12:KR:=fun c d e=>jR b d e (s269_11 k a b) fun a=>strB .eql c (.str 0 0) fun b=>a b d e
def s269_13:KR:=fun c d e=>jR b d e (s269_12 k a b) fun a=>loadK d c fun b=>a b d e
def s269_14:KR:=fun c d e=>pickK b c fF fun b=>jR b d e (s269_13 k a b) fun b=>faddrK 2 a fun a=>b a d e
def s269_15:KR:=fun c d e=>jR b d e (s269_14 k a b) fun a=>leqI c (I 1099511627776) fun b=>a b d e
def s269_16:KR:=fun c d e=>jR b d e (s269_15 k a b) fun a=>loadK d c fun b=>a b d e
def s269_17:KR:=fun b c d=>pickK a b fF fun a=>k a c d
def s269_18:KR:=fun b c d=>jR a c d (s269_17 k a) fun a=>eqlI b (I 0) fun b=>a b c d
def s269_19:KR:=fun b c d=>jR a c d (s269_18 k a) fun a=>mQ (fun b=>a b c d) (lenSl b)
def s269_20:KR:=fun b c d=>jR a c d (s269_19 k a) fun a=>loadK c b fun b=>a b c d
def s269_21:KR:=fun c d e=>pickK a c fF fun a=>jR a d e (s269_20 k a) fun a=>faddrK 3 b fun b=>a b d e
def s269_22:KR:=fun c d e=>jR a d e (s269_21 k a b) (F 160 [c] d e)
def s269_23:KR:=fun c d e=>jR a d e (s269_22 F k a b) fun a=>loadK d c fun b=>a b d e
def s269_24:KR:=fun b c d=>pickK a b fF fun a=>k a c d
def s269_25:KR:=fun b c d=>jR a c d (s269_24 k a) fun a=>eqlI b (I 0) fun b=>a b c d
def s269_26:KR:=fun b c d=>jR a c d (s269_25 k a) fun a=>mQ (fun b=>a b c d) (lenSl b)
def s269_27:KR:=fun b c d=>jR a c d (s269_26 k a) fun a=>loadK c b fun b=>a b c d
def s269_28:KR:=fun c d e=>pickK a c fF fun a=>jR a d e (s269_27 k a) fun a=>faddrK 3 b fun b=>a b d e
def s269_29:KR:=fun c d e=>jR a d e (s269_28 k a b) (F 173 [c] d e)
def s269_30:KR:=fun c d e=>jR a d e (s269_29 F k a b) fun a=>loadK d c fun b=>a b d e
def s269(_:Nat):Hand:=fun a _ b c d e=>arg1 b fun b f=>arg1 f fun f g=>arg0 g (boxE b c d fun b c=>forceN (Nat.succ d) fun d=>boxE f c d fun _ c=>forceN (Nat.succ d) fun d=>faddrK 0 b fun f=>loadK c f fun f=>mJ (fun _ _ _=>false) fun _=>eqlI f (I 0) fun g=>cB g (faddrK 1 b fun a=>loadK c a fun a=>geqI a (I 0) fun a=>jR a c d (s269_6 e a b) fun a=>faddrK 2 b fun b=>a b c d) (eqlI f (I 1) fun g=>cB g (faddrK 1 b fun a=>loadK c a fun a=>geqI a (.int .i64 (.negSucc 1099511627775)) fun a=>jR a c d (s269_16 e b a) fun a=>faddrK 1 b fun b=>a b c d) (eqlI f (I 2) fun g=>cB g (faddrK 1 b fun f=>loadK c f fun f=>eqlI f (I 0) fun f=>jR f c d (s269_23 a e f b) fun a=>faddrK 2 b fun b=>a b c d) (eqlI f (I 3) fun g=>cB g false (eqlI f (I 4) fun f=>cB f (faddrK 1 b fun f=>loadK c f fun f=>geqI f (I 0) fun f=>jR f c d (s269_30 a e f b) fun a=>faddrK 2 b fun b=>a b c d) false)))))
theorem h269:HO 269 s269:=hO 2 (T2 L0 (T2 (T2 L0 (.one [] (T2 L0 (T2 (T2 L0 L0) (T2 L0 (T2 (T2 L0 L0) (T2 L0 (T2 (T2 L0 L0) (T2 L0 (T2 .stop (T2 L0 (T2 (T2 L0 L0) .stop)))))))))))) .stop)) Tryz.func269 Tryz.call269 fun N F G l H n k=>by kernel_rfl
def s270_0:KJ→KJ:=fun c _ d e=>nextD d b fun d f=>extK 0 d fun d=>cB d (mJ (fun _ a b=>c [] a b) fun c=>entryE f b fun b=>extK 0 b fun b=>callV F G a [b] f e fun a b d=>notB a fun a=>cB a false (c [] b d)) (j [] f e)
def s270(a:Nat):Hand:=fun b c d e f g=>arg1 d fun d h=>arg1 h fun h i=>arg0 i (loadK e h fun h=>rngK e f h fun e f h=>mJ (fun _ a b=>g (.tup []) a b) fun g=>iterN a (s270_0 b c g d e) [] f h)
theorem d270 (N : Nat) : DHandOK Tryz.prog 270 (s270 N) := dhandOK_of (C := calmC) (N := N) (np := 2) (an := (.two .leaf (.one [] (.one [] (.two .leaf (.two (.two .leaf .leaf) (.one [] (.two .leaf (.two .leaf (.two .stop .leaf)))))))))) Tryz.func270 Tryz.call270 fun F G l H n k => (by kernel_rfl)
def s270s (N:Nat):Hand:=envHand 6 5 (s270 N)
theorem h270 (N : Nat) : HandOK Tryz.prog 270 (s270s N) := envHand_ok (d270 N)
def s271_0:KJ:=fun _ c d=>loadNK 4 c b fun b=>F 330 [b,a] c d fun a b c=>AV.ckOk a (AV.ckOk (I 0) (k (.tup [a,I 0]) b c))
def s271_1:KR:=fun b c d=>pickK a fT b fun a=>cB a false (j [] c d)
def s271_2:KR:=fun c d e=>jRn a d e (s271_1 j a) fun a=>geqI b c fun b=>a b d e
def s271_3:KR:=fun c d e=>jRn a d e (s271_2 j a b) fun a=>mQ (fun b=>a b d e) (lenSl c)
def s271_4:KR:=fun c d e=>jRn a d e (s271_3 j a b) fun a=>loadK d c fun b=>a b d e
def s271_5:KR:=fun c d e=>jRn a d e (s271_4 j a c) fun a=>faddrK 0 b fun b=>a b d e
def s271(_:Nat):Hand:=fun a _ b c d e=>arg1 b fun b f=>arg1 f fun f g=>arg0 g (boxE b c d fun b c=>forceN (Nat.succ d) fun d=>mJ (s271_0 a e f b) fun e=>loadNK 4 c b fun g=>a 20 [g] c d fun a c d=>notB a fun a=>cB a false (lssI f (I 0) fun a=>jRn a c d (s271_5 e a b) fun a=>a f c d))
theorem h271:HO 271 s271:=hO 2 (T2 L0 (T2 (.one [] (T2 L0 (T2 .stop (T2 L0 (T2 .stop L0))))) (T2 L0 L0))) Tryz.func271 Tryz.call271 fun N F G l H n k=>by kernel_rfl
def s272_0:KJ:=fun b c d=>arg1 b fun b e=>arg1 e fun e f=>arg1 f fun f g=>arg1 g fun g h=>arg1 h fun h i=>arg1 i fun i l=>arg1 l fun l m=>arg1 m fun m o=>arg1 o fun o p=>arg1 p fun p _=>addI a (I 1) fun a=>j [a,b,e,f,g,h,i,l,m,o,p] c d
def s272_1:KJ:=fun a b c=>arg1 a fun a d=>arg1 d fun d e=>arg1 e fun e f=>arg1 f fun f g=>arg1 g fun g h=>arg1 h fun h i=>arg1 i fun i l=>arg1 l fun l m=>arg1 m fun m o=>arg1 o fun o _=>j [a,d,e,f,g,h,i,l,m,o] b c
def s272_2:KJ:=fun _ l m=>subI p (I 1) fun p=>j [p,a,b,c,d,e,f,g,h,i,o] l m
def s272_3:KR:=fun l m q=>pickK b l fF fun b=>cB b (mJ (s272_2 J c d e f g h i o p l r) fun b=>subI r (I 1) fun c=>subI r (I 1) fun d=>iaddrK 1 a d fun d=>loadK m d fun d=>iaddrK 1 a r fun e=>loadK m e fun e=>iaddrK 1 a r fun f=>storeK 1 m f d fun _ d=>iaddrK 1 a c fun a=>storeK 1 d a e fun _ a=>b [] a q) (j [c,d,e,f,g,h,i,o,p,l] m q)
def s272_4:KQ:=fun l=>jR b H n (s272_3 j J a b c d e f g h i o l p) (F 265 [f,l] H n)
def s272_5:KQ:=fun l=>jQ b (s272_4 F j J H n a b c d e f g h i l o) (loadK H l)
def s272_6:KQ:=fun l=>jQ b (s272_5 F j J H n a b c d e f g h l i) (iaddrK 1 g l)
def s272_7:KQ:=fun i=>jQ b (s272_6 F j J H n a b c d e f g i h) (subI i (I 1))
def s272_8:KQ:=fun h=>jQ b (s272_7 F j J H n a b c d e f h g) fun a=>a g
def s272_9:KQ:=fun g=>jQ b (s272_8 F j J H n a b c d e g f) fun b=>b a
def s272_10:KQ:=fun f=>jQ b (s272_9 F j J H n a b c d f e) (loadK H f)
def s272_11:KQ:=fun e=>jQ b (s272_10 F j J H n a b c e d) (iaddrK 1 c e)
def s272_12:KQ:=fun d=>jQ b (s272_11 F j J H n a b d c) fun a=>a c
def s272_13:KJ→KJ:=fun c d e f=>arg1 d fun d g=>arg1 g fun _ g=>arg1 g fun _ g=>arg1 g fun _ g=>arg1 g fun _ g=>arg1 g fun _ g=>arg1 g fun _ g=>arg1 g fun _ g=>arg1 g fun _ g=>arg1 g fun _ g=>arg1 g fun _ _=>gtrI d b fun b=>jQ b (s272_12 F j c e f a b d) fun b=>b a
def s272_14:KJ→KJ:=fun d e f g=>arg1 e fun e h=>arg1 h fun h i=>arg1 i fun i l=>arg1 l fun l m=>arg1 m fun m o=>arg1 o fun o p=>arg1 p fun p q=>arg1 q fun q r=>arg1 r fun r s=>arg1 s fun s t=>arg1 t fun t _=>lssI e c fun c=>cB c (mJ (s272_0 d e) fun c=>mJ (s272_1 c) fun c=>iterN n (s272_13 F c a b) [e,h,i,l,m,o,p,q,r,s,t] f g) (j [] f g)
def s272(a:Nat):Hand:=fun b _ c d e f=>arg1 c fun c g=>arg1 g fun g h=>arg1 h fun h i=>arg0 i (addI g (I 1) fun i=>mJ (fun _ a b=>f (.tup []) a b) fun f=>iterN a (s272_14 b f a c g h) [i,.bad,.bad,.bad,.bad,.bad,.bad,.bad,.bad,.bad,.bad] d e)
theorem h272:HO 272 s272:=hO 3 (T2 L0 (.one [] (.one [6,20,21,22,23,24,25,26,27,28,29] (T2 (T2 L0 (T2 L0 L0)) (T2 (.one [20,21,22,23,24,25,26,27,28,29] (T2 L0 (.one [20,21,22,23,24,25,26,27,28,29] (.one [7,20,21,22,23,24,25,26,27,28,29] (T2 (T2 L0 (T2 L0 L0)) (T2 (.one [] L0) L0)))))) L0))))) Tryz.func272 Tryz.call272 fun N F G l H n k=>by kernel_rfl
def s275_0:KJ:=fun _ a b=>AV.ckOk .bad (AV.ckOk .bad (k (.tup [.bad,.bad]) a b))
def s275(_:Nat):Hand:=fun a _ b c d e=>arg1 b fun b f=>arg1 f fun f g=>arg1 g fun g h=>arg0 h (subI g f fun g=>newK [I 0] c d fun c=>forceN (Nat.succ d) fun h=>quoI g (I 4) fun i=>mulI i (I 1) fun i=>addI f i fun i=>quoI g (I 4) fun j=>mulI j (I 2) fun j=>addI f j fun j=>quoI g (I 4) fun l=>mulI l (I 3) fun l=>addI f l fun f=>geqI g (I 8) fun l=>cB l (geqI g (I 50) fun g=>cB g false (a 335 [b,i,j,f,.ptr d 0] c h fun a b c=>loadK b (.ptr d 0) fun d=>mJ (s275_0 e) fun _=>eqlI d (I 0) fun f=>cB f (AV.ckOk a (AV.ckOk (I 1) (e (.tup [a,I 1]) b c))) (eqlI d (I 12) fun d=>cB d false (AV.ckOk a (AV.ckOk (I 0) (e (.tup [a,I 0]) b c)))))) false)
theorem h275:HO 275 s275:=hO 3 (T2 L0 (T2 L0 (T2 L0 (T2 L0 (T2 L0 (T2 L0 (T2 (T2 L0 (T2 (T2 (T2 L0 (T2 .stop L0)) L0) .stop)) (T2 L0 (.one [] (T2 L0 (T2 (T2 L0 L0) (T2 L0 (T2 .stop (T2 L0 L0)))))))))))))) Tryz.func275 Tryz.call275 fun N F G l H n k=>by kernel_rfl
def s277_0:KJ:=fun c d e=>arg1 c fun c _=>eqlI c b fun c=>cB c (k fT d e) (subI b a fun a=>lssI a (I 50) fun a=>cB a (k fF d e) false)
def s277_1:KJ:=fun l m q=>arg1 l fun l _=>j [l,f,g,h,i,o,p,a,b,c,d,e] m q
def s277_2:KQ:=fun l=>pickK f l fF fun f=>cB f (mJ (s277_1 J a b c d l g h i o p r) fun a=>addI e (I 1) fun b=>a [b] H n) (j [e] H n)
def s277_3:KR:=fun l m q=>jQ e (s277_2 j J m q a b c l d e f g h i o p) (notB l)
def s277_4:KQ:=fun l=>jR d H n (s277_3 j J a b l c d e f g h i o) (F 265 [h,l] H n)
def s277_5:KQ:=fun l=>jQ c (s277_4 F j J H n a l b c d e f g h i) (loadK H l)
def s277_6:KQ:=fun i=>jQ b (s277_5 F j J H n i a b c d e f g h) (iaddrK 1 g i)
def s277_7:KQ:=fun h=>jQ b (s277_6 F j J H n a b c d e f g h) (subI h (I 1))
def s277_8:KQ:=fun g=>jQ b (s277_7 F j J H n a b c d e f g) fun b=>b a
def s277_9:KQ:=fun g=>jQ c (s277_8 F j J H n b c d e f g) fun b=>b a
def s277_10:KQ:=fun f=>jQ c (s277_9 F j J H n a b c d e f) (loadK H f)
def s277_11:KQ:=fun e=>jQ c (s277_10 F j J H n a b c d e) (iaddrK 1 d e)
def s277_12:KQ:=fun d=>jQ c (s277_11 F j J H n a b c d) fun a=>a b
def s277_13:KJ→KJ:=fun c d e f=>arg1 d fun d g=>arg1 g fun _ g=>arg1 g fun _ g=>arg1 g fun _ g=>arg1 g fun _ g=>arg1 g fun _ g=>arg1 g fun _ g=>arg1 g fun _ g=>arg1 g fun _ g=>arg1 g fun _ g=>arg1 g fun _ g=>arg1 g fun _ _=>lssI d b fun b=>jQ b (s277_12 F j c e f a d b) fun b=>b a
def s277_14:KJ→KJ:=fun _ d e f=>arg1 d fun d g=>arg1 g fun g h=>arg1 h fun h i=>arg1 i fun i j=>arg1 j fun j l=>arg1 l fun l m=>arg1 m fun m o=>arg1 o fun o p=>arg1 p fun p q=>arg1 q fun q r=>arg1 r fun r s=>arg1 s fun s t=>arg1 t fun t _=>lssI g (I 5) fun g=>cB g (mJ (fun _ _ _=>false) fun _=>mJ (s277_0 k b c) fun b=>iterN n (s277_13 F b a c) [d,h,i,j,l,m,o,p,q,r,s,t] e f) false
def s277(a:Nat):Hand:=fun b _ c d e f=>arg1 c fun c g=>arg1 g fun g h=>arg1 h fun h i=>arg0 i (addI g (I 1) fun i=>mJ (fun _ _ _=>false) fun _=>iterN a (s277_14 b f a c g h) [i,I 0,.bad,.bad,.bad,.bad,.bad,.bad,.bad,.bad,.bad,.bad,.bad] d e)
theorem h277:HO 277 s277:=hO 3 (T2 L0 (T2 L0 (T2 (T2 L0 (.one [] (.one [7,8,21,22,23,24,25,26,27,28,29,30,31] (T2 (T2 L0 (T2 L0 .stop)) (T2 (.one [] (T2 (.one [7] (.one [7,21,22,23,24,25,26,27,28,29,30,31] (T2 (T2 L0 (T2 L0 L0)) (.one [7] L0)))) (T2 (T2 L0 (T2 (T2 L0 L0) L0)) (T2 (T2 L0 (T2 (T2 L0 L0) .stop)) .stop)))) .stop))))) .stop))) Tryz.func277 Tryz.call277 fun N F G l H n k=>by kernel_rfl
def s279_0:KJ:=fun c d e=>arg1 c fun c _=>iaddrK 1 a b fun f=>loadK d f fun f=>iaddrK 1 a c fun g=>loadK d g fun g=>iaddrK 1 a c fun h=>storeK 1 d h f fun _ d=>iaddrK 1 a b fun a=>storeK 1 d a g fun _ a=>AV.ckOk c (AV.ckOk fF (k (.tup [c,.bool false]) a e))
def s279_1:KJ:=fun a b c=>arg1 a fun a d=>arg1 d fun d e=>arg1 e fun e f=>arg1 f fun f g=>arg1 g fun g h=>arg1 h fun h i=>arg1 i fun i l=>arg1 l fun l m=>arg1 m fun m o=>arg1 o fun o p=>arg1 p fun p q=>arg1 q fun q r=>arg1 r fun r s=>arg1 s fun s t=>arg1 t fun t u=>arg1 u fun u v=>arg1 v fun v w=>arg1 w fun w x=>arg1 x fun x y=>arg1 y fun y z=>arg1 z fun z _=>j [a,d,e,f,g,h,i,l,m,o,p,q,r,s,t,u,v,w,x,y,z] b c
def s279_2:KJ:=fun l m q=>arg1 l fun l r=>arg1 r fun r s=>arg1 s fun s t=>arg1 t fun t u=>arg1 u fun u v=>arg1 v fun v w=>arg1 w fun w x=>arg1 x fun x y=>arg1 y fun y z=>arg1 z fun z A=>arg1 A fun A _=>gtrI b l fun B=>cB B (J [l] m q) (iaddrK 1 a l fun B=>loadK m B fun B=>iaddrK 1 a b fun C=>loadK m C fun C=>iaddrK 1 a b fun D=>storeK 1 m D B fun _ m=>iaddrK 1 a l fun a=>storeK 1 m a C fun _ a=>addI b (I 1) fun b=>subI l (I 1) fun l=>j [b,l,c,d,e,f,g,h,i,o,p,r,s,t,u,v,w,x,y,z,A] a q)
def s279_3:KJ:=fun l m p=>arg1 l fun l _=>j [l,a,b,c,d,e,f,g,h,i,o] m p
def s279_4:KQ:=fun l=>pickK b l fF fun b=>cB b (mJ (s279_3 J c d e f g h i o p l) fun b=>subI a (I 1) fun a=>b [a] H n) (j [a,c,d,e,f,g,h,i,o,p,l] H n)
def s279_5:KR:=fun l m p=>jQ b (s279_4 j J m p a b c d e f g h i o l) (notB l)
def s279_6:KQ:=fun l=>jR b H n (s279_5 j J a b c d e f g h i l) (F 265 [f,l] H n)
def s279_7:KQ:=fun i=>jQ b (s279_6 F j J H n a b c d e f g h i) (loadK H i)
def s279_8:KQ:=fun h=>jQ b (s279_7 F j J H n a b c d e f g h) (iaddrK 1 g h)
def s279_9:KQ:=fun h=>jQ c (s279_8 F j J H n b c d e f g h) fun b=>b a
def s279_10:KQ:=fun h=>jQ d (s279_9 F j J H n b c d e f g h) fun b=>b a
def s279_11:KQ:=fun g=>jQ d (s279_10 F j J H n a b c d e f g) (loadK H g)
def s279_12:KQ:=fun f=>jQ d (s279_11 F j J H n a b c d e f) (iaddrK 1 e f)
def s279_13:KQ:=fun e=>jQ d (s279_12 F j J H n a b c d e) fun a=>a c
def s279_14:KJ→KJ:=fun d e f g=>arg1 e fun e h=>arg1 h fun _ h=>arg1 h fun _ h=>arg1 h fun _ h=>arg1 h fun _ h=>arg1 h fun _ h=>arg1 h fun _ h=>arg1 h fun _ h=>arg1 h fun _ h=>arg1 h fun _ h=>arg1 h fun _ _=>leqI b e fun b=>jQ b (s279_13 F j d f g a c e b) fun b=>b a
def s279_15:KJ:=fun l m q=>arg1 l fun l t=>arg1 t fun t u=>arg1 u fun u v=>arg1 v fun v w=>arg1 w fun w x=>arg1 x fun x y=>arg1 y fun y z=>arg1 z fun z A=>arg1 A fun A B=>arg1 B fun B _=>mJ (s279_2 j J a l t u v w x y z A B) fun j=>iterN n (s279_14 F j a l o) [p,r,s,b,c,d,e,f,g,h,i] m q
def s279_16:KJ:=fun l m o=>arg1 l fun l _=>j [l,a,b,c,d,e,f,g,h,i] m o
def s279_17:KR:=fun l m p=>pickK b l fF fun b=>cB b (mJ (s279_16 J c d e f g h i o l) fun b=>addI a (I 1) fun a=>b [a] m p) (j [a,c,d,e,f,g,h,i,o,l] m p)
def s279_18:KQ:=fun l=>jR b H n (s279_17 j J a b c d e f g h i l) (F 265 [f,l] H n)
def s279_19:KQ:=fun i=>jQ b (s279_18 F j J H n a b c d e f g h i) (loadK H i)
def s279_20:KQ:=fun h=>jQ b (s279_19 F j J H n a b c d e f g h) (iaddrK 1 g h)
def s279_21:KQ:=fun h=>jQ c (s279_20 F j J H n b c d e f g h) fun b=>b a
def s279_22:KQ:=fun h=>jQ d (s279_21 F j J H n b c d e f g h) fun b=>b a
def s279_23:KQ:=fun g=>jQ d (s279_22 F j J H n a b c d e f g) (loadK H g)
def s279_24:KQ:=fun f=>jQ d (s279_23 F j J H n a b c d e f) (iaddrK 1 e f)
def s279_25:KQ:=fun e=>jQ d (s279_24 F j J H n a b c d e) fun a=>a c
def s279_26:KJ→KJ:=fun d e f g=>arg1 e fun e h=>arg1 h fun _ h=>arg1 h fun _ h=>arg1 h fun _ h=>arg1 h fun _ h=>arg1 h fun _ h=>arg1 h fun _ h=>arg1 h fun _ h=>arg1 h fun _ h=>arg1 h fun _ _=>leqI e c fun c=>jQ c (s279_25 F j d f g a b e c) fun b=>b a
def s279_27:KJ→KJ:=fun c d e f=>arg1 d fun d g=>arg1 g fun g h=>arg1 h fun h i=>arg1 i fun i l=>arg1 l fun l m=>arg1 m fun m o=>arg1 o fun o p=>arg1 p fun p q=>arg1 q fun q r=>arg1 r fun r s=>arg1 s fun s t=>arg1 t fun t u=>arg1 u fun u v=>arg1 v fun v w=>arg1 w fun w x=>arg1 x fun x y=>arg1 y fun y z=>arg1 z fun z A=>arg1 A fun A B=>arg1 B fun B C=>arg1 C fun C _=>mJ (s279_1 c) fun c=>mJ (s279_15 F c j n a v w x y z A B C b g t u) fun c=>iterN n (s279_26 F c a b g) [d,h,i,l,m,o,p,q,r,s] e f
def s279_28:KJ:=fun d e f=>arg1 d fun d _=>gtrI c d fun g=>cB g (iaddrK 1 a b fun c=>loadK e c fun c=>iaddrK 1 a d fun g=>loadK e g fun g=>iaddrK 1 a d fun h=>storeK 1 e h c fun _ c=>iaddrK 1 a b fun a=>storeK 1 c a g fun _ a=>AV.ckOk d (AV.ckOk fT (k (.tup [d,.bool true]) a f))) (iaddrK 1 a d fun g=>loadK e g fun g=>iaddrK 1 a c fun h=>loadK e h fun h=>iaddrK 1 a c fun i=>storeK 1 e i g fun _ e=>iaddrK 1 a d fun g=>storeK 1 e g h fun _ e=>addI c (I 1) fun c=>subI d (I 1) fun d=>mJ (s279_0 k a b) fun g=>iterN n (s279_27 F g n a b) [c,d,.bad,.bad,.bad,.bad,.bad,.bad,.bad,.bad,.bad,.bad,.bad,.bad,.bad,.bad,.bad,.bad,.bad,.bad,.bad] e f)
def s279_29:KJ:=fun l m p=>arg1 l fun l _=>j [l,a,b,c,d,e,f,g,h,i,o] m p
def s279_30:KQ:=fun l=>pickK b l fF fun b=>cB b (mJ (s279_29 J c d e f g h i o p l) fun b=>subI a (I 1) fun a=>b [a] H n) (j [a] H n)
def s279_31:KR:=fun l m p=>jQ b (s279_30 j J m p a b c d e f g h i o l) (notB l)
def s279_32:KQ:=fun l=>jR b H n (s279_31 j J a b c d e f g h i l) (F 265 [f,l] H n)
def s279_33:KQ:=fun i=>jQ b (s279_32 F j J H n a b c d e f g h i) (loadK H i)
def s279_34:KQ:=fun h=>jQ b (s279_33 F j J H n a b c d e f g h) (iaddrK 1 g h)
def s279_35:KQ:=fun h=>jQ c (s279_34 F j J H n b c d e f g h) fun b=>b a
def s279_36:KQ:=fun h=>jQ d (s279_35 F j J H n b c d e f g h) fun b=>b a
def s279_37:KQ:=fun g=>jQ d (s279_36 F j J H n a b c d e f g) (loadK H g)
def s279_38:KQ:=fun f=>jQ d (s279_37 F j J H n a b c d e f) (iaddrK 1 e f)
def s279_39:KQ:=fun e=>jQ d (s279_38 F j J H n a b c d e) fun a=>a c
def s279_40:KJ→KJ:=fun d e f g=>arg1 e fun e h=>arg1 h fun _ h=>arg1 h fun _ h=>arg1 h fun _ h=>arg1 h fun _ h=>arg1 h fun _ h=>arg1 h fun _ h=>arg1 h fun _ h=>arg1 h fun _ h=>arg1 h fun _ h=>arg1 h fun _ _=>leqI c e fun c=>jQ c (s279_39 F j d f g a b e c) fun b=>b a
def s279_41:KJ:=fun d e f=>arg1 d fun d _=>mJ (s279_28 F k n a c d) fun g=>iterN n (s279_40 F g a c d) [b,.bad,.bad,.bad,.bad,.bad,.bad,.bad,.bad,.bad,.bad] e f
def s279_42:KJ:=fun l m o=>arg1 l fun l _=>j [l,a,b,c,d,e,f,g,h,i] m o
def s279_43:KR:=fun l m p=>pickK b l fF fun b=>cB b (mJ (s279_42 J c d e f g h i o l) fun b=>addI a (I 1) fun a=>b [a] m p) (j [a] m p)
def s279_44:KQ:=fun l=>jR b H n (s279_43 j J a b c d e f g h i l) (F 265 [f,l] H n)
def s279_45:KQ:=fun i=>jQ b (s279_44 F j J H n a b c d e f g h i) (loadK H i)
def s279_46:KQ:=fun h=>jQ b (s279_45 F j J H n a b c d e f g h) (iaddrK 1 g h)
def s279_47:KQ:=fun h=>jQ c (s279_46 F j J H n b c d e f g h) fun b=>b a
def s279_48:KQ:=fun h=>jQ d (s279_47 F j J H n b c d e f g h) fun b=>b a
def s279_49:KQ:=fun g=>jQ d (s279_48 F j J H n a b c d e f g) (loadK H g)
def s279_50:KQ:=fun f=>jQ d (s279_49 F j J H n a b c d e f) (iaddrK 1 e f)
def s279_51:KQ:=fun e=>jQ d (s279_50 F j J H n a b c d e) fun a=>a c
def s279_52:KJ→KJ:=fun d e f g=>arg1 e fun e h=>arg1 h fun _ h=>arg1 h fun _ h=>arg1 h fun _ h=>arg1 h fun _ h=>arg1 h fun _ h=>arg1 h fun _ h=>arg1 h fun _ h=>arg1 h fun _ h=>arg1 h fun _ _=>leqI e b fun b=>jQ b (s279_51 F j d f g a c e b) fun b=>b a
def s279(a:Nat):Hand:=fun b _ c d e f=>arg1 c fun c g=>arg1 g fun g h=>arg1 h fun h i=>arg1 i fun i j=>arg0 j (iaddrK 1 c i fun j=>loadK d j fun j=>iaddrK 1 c g fun l=>loadK d l fun l=>iaddrK 1 c g fun m=>storeK 1 d m j fun _ d=>iaddrK 1 c i fun i=>storeK 1 d i l fun _ d=>addI g (I 1) fun i=>subI h (I 1) fun h=>mJ (s279_41 b f a c h g) fun f=>iterN a (s279_52 b f c h g) [i,.bad,.bad,.bad,.bad,.bad,.bad,.bad,.bad,.bad] d e)
theorem h279:HO 279 s279:=hO 4 (T2 L0 (T2 L0 (T2 L0 (T2 (.one [10] (.one [10,34,35,36,37,38,39,40,41,42] (T2 (T2 L0 (T2 L0 L0)) (.one [10] L0)))) (T2 (.one [11] (.one [11,50,51,52,53,54,55,56,57,58,59] (T2 (T2 L0 (T2 L0 L0)) (.one [11] L0)))) (T2 (T2 L0 (T2 (T2 L0 (T2 L0 L0)) L0)) (T2 L0 (T2 L0 (T2 L0 (T2 (.one [11] (.one [10,11,103,104,105,106,107,108,109,110,111,119,120,121,122,123,124,125,126,127,128] (.one [10,11,103,104,105,106,107,108,109,110,111,119,120,121,122,123,124,125,126,127,128] (T2 (.one [10,103,104,105,106,107,108,109,110,111] (.one [10,103,104,105,106,107,108,109,110,111] (T2 (T2 L0 (T2 L0 L0)) (.one [10] L0)))) (T2 (.one [11,119,120,121,122,123,124,125,126,127,128] (.one [11,119,120,121,122,123,124,125,126,127,128] (T2 (T2 L0 (T2 L0 L0)) (.one [11] L0)))) (T2 (T2 L0 (T2 L0 L0)) (T2 L0 (T2 L0 L0)))))))) (T2 L0 (T2 L0 L0)))))))))))) Tryz.func279 Tryz.call279 fun N F G l H n k=>by kernel_rfl
def s281_0:KJ:=fun _ b c=>AV.ckOk a (AV.ckOk fT (k (.tup [a,.bool true]) b c))
def s281_1:KJ:=fun _ b c=>addI a (I 1) fun a=>j [a] b c
def s281_2:KQ:=fun c=>lssI b c fun c=>cB c (mJ (s281_1 J b) fun c=>faddrK 0 a fun a=>loadK H a fun a=>iaddrK 6 a b fun a=>loadNK 6 H a fun a=>newK [.str 0 0,.nils,.str 0 0,I 0,.nils,.nils] H n fun b=>forceN (Nat.succ n) fun d=>storeK 6 b (.ptr n 0) a fun _ a=>faddrK 0 (.ptr n 0) fun b=>loadK a b fun b=>strB .neq b (.str 4 1668248176) fun b=>cB b (c [] a d) false) (j [] H n)
def s281_3:KJ→KJ:=fun b c d e=>arg1 c fun c _=>faddrK 0 a fun f=>loadK d f fun f=>mQ (s281_2 j b d e a c) (lenSl f)
def s281_4:KJ:=fun _ c d=>mJ (s281_0 k b) fun b=>iterN n (s281_3 b a) [I 0] c d
def s281_5:KJ:=fun _ b c=>addI a (I 1) fun a=>j [a] b c
def s281_6:KQ:=fun d=>lssI c d fun d=>cB d (mJ (s281_5 J c) fun d=>faddrK 3 a fun a=>loadK H a fun a=>iaddrK 1 b a fun a=>loadK H a fun a=>iaddrK 1 a c fun a=>loadK H a fun a=>cB a false (d [] H n)) (j [] H n)
def s281_7:KJ→KJ:=fun c d e f=>arg1 d fun d _=>faddrK 1 a fun g=>loadK e g fun g=>mQ (s281_6 j c e f a b d) (lenSl g)
def s281_8:KQ:=fun d=>F 54 [c,d,a] H m fun a c d=>faddrK 2 b fun e=>loadK c e fun e=>mJ (s281_4 k n b a) fun f=>iterN n (s281_7 f b a) [e] c d
def s281(a:Nat):Hand:=fun b _ c d e f=>arg1 c fun c g=>arg0 g (boxE c d e fun c d=>forceN (Nat.succ e) fun e=>loadNK 4 d c fun g=>b 336 [g] d e fun d e g=>notB d fun d=>cB d false (faddrK 0 c fun d=>loadK e d fun d=>b 53 [d] e g fun d e g=>extK 0 d fun h=>extK 1 d fun d=>notB d fun d=>cB d false (faddrK 0 c fun d=>loadK e d fun d=>faddrK 1 c fun i=>loadK e i fun i=>mQ (s281_8 b e f a g h c d) (lenSl i))))
theorem h281:HO 281 s281:=hO 1 (T2 L0 (T2 (T2 L0 (T2 .stop L0)) (T2 L0 (T2 (T2 L0 (T2 .stop L0)) (T2 L0 (T2 (T2 L0 (.one [] (.one [7] (T2 (T2 L0 (T2 L0 L0)) (T2 (.one [] (T2 L0 (T2 .stop L0))) L0))))) (T2 (T2 L0 (.one [] (.one [8] (T2 (T2 L0 (T2 L0 L0)) (T2 (.one [] (T2 L0 (T2 (T2 L0 (T2 L0 .stop)) .stop))) L0))))) (T2 L0 L0)))))))) Tryz.func281 Tryz.call281 fun N F G l H n k=>by kernel_rfl
def s282(_:Nat):Hand:=fun _ _ a b c d=>arg0 a (AV.ckOne fT (boxE (.agg [.nils,.nils,.bool true]) b c fun a b=>forceN (Nat.succ c) (d a b)))
theorem h282:HO 282 s282:=hO 0 (T2 L0 (T2 L0 L0)) Tryz.func282 Tryz.call282 fun N F G l H n k=>by kernel_rfl
def s283(_:Nat):Hand:=fun a _ b c d e=>arg1 b fun b f=>arg1 f fun f g=>arg1 g fun g h=>arg0 h (AV.ckOne (I 4) (AV.ckOne f (AV.ckOne g (a 337 [b,.agg [I 4,g,f,.nils]] c d fun a b c=>extK 0 a fun d=>extK 1 a fun a=>AV.ckOk d (AV.ckOk a (e (.tup [d,a]) b c))))))
theorem h283:HO 283 s283:=hO 3 (T2 L0 (T2 L0 L0)) Tryz.func283 Tryz.call283 fun N F G l H n k=>by kernel_rfl
def s284(_:Nat):Hand:=fun a _ b c d e=>arg1 b fun b f=>arg0 f (a 337 [b,.agg [I 0,I 0,.str 0 0,.nils]] c d fun a b c=>extK 0 a fun d=>extK 1 a fun a=>AV.ckOk d (AV.ckOk a (e (.tup [d,a]) b c)))
theorem h284:HO 284 s284:=hO 1 (T2 L0 (T2 L0 L0)) Tryz.func284 Tryz.call284 fun N F G l H n k=>by kernel_rfl
def s285(_:Nat):Hand:=fun a _ b c d e=>arg1 b fun b f=>arg1 f fun f g=>arg0 g (AV.ckOne (I 2) (AV.ckOne f (a 337 [b,.agg [I 2,I 0,f,.nils]] c d fun a b c=>extK 0 a fun d=>extK 1 a fun a=>AV.ckOk d (AV.ckOk a (e (.tup [d,a]) b c)))))
theorem h285:HO 285 s285:=hO 2 (T2 L0 (T2 L0 L0)) Tryz.func285 Tryz.call285 fun N F G l H n k=>by kernel_rfl
def s286(_:Nat):Hand:=fun _ _ a b c d=>arg1 a fun a e=>arg1 e fun e f=>arg0 f (nilK a (faddrK 0 a fun f=>loadK b f fun f=>nilK f (faddrK 0 f fun f=>loadK b f fun f=>nilK a (faddrK 0 a fun a=>loadK b a fun a=>nilK a (faddrK 1 a fun a=>loadK b a fun a=>iaddrK 1 a e fun a=>loadK b a fun a=>iaddrK 4 f a fun a=>faddrK 0 a fun a=>loadK b a fun a=>eqlI a (I 0) fun a=>d a b c)))))
theorem h286:HO 286 s286:=hO 2 (T2 L0 (T2 L0 L0)) Tryz.func286 Tryz.call286 fun N F G l H n k=>by kernel_rfl
def s287_0:KJ:=fun a b c=>arg1 a fun a _=>k a b c
def s287_1:KJ:=fun b c d=>arg1 b fun b _=>addI a (I 1) fun a=>j [b,a] c d
def s287_2:KQ:=fun e=>lssI c e fun e=>cB e (mJ (s287_1 j c) fun e=>iaddrK 1 d c fun c=>loadK H c fun c=>iaddrK 1 a c fun a=>loadK H a fun a=>AV.ckOne a (newK [a] H n fun a=>forceN (Nat.succ n) fun c=>mR (fun a b c=>e [a] b c) (appK 1 a c b (.sl n 0 1 (.known 1))))) (J [b] H n)
def s287_3:KJ→KJ:=fun c d e f=>arg1 d fun d g=>arg1 g fun g _=>mQ (s287_2 c j e f a d g b) (lenSl b)
def s287(a:Nat):Hand:=fun _ _ b c d e=>arg1 b fun b f=>arg1 f fun f g=>arg0 g (mJ (s287_0 e) fun e=>iterN a (s287_3 e b f) [.nils,I 0] c d)
theorem h287:HO 287 s287:=hO 2 (T2 L0 (T2 L0 (T2 (T2 L0 (.one [5] (.one [5,6] (T2 (T2 L0 (T2 L0 L0)) (T2 (.one [5] L0) L0))))) (T2 L0 L0)))) Tryz.func287 Tryz.call287 fun N F G l H n k=>by kernel_rfl
def s288_0:KQ:=fun d=>gtrI d (I 400) fun d=>cB d false (nilK a (faddrK 9 a fun a=>loadK H a fun a=>iaddrK 4 a c fun a=>faddrK 0 a fun a=>storeK 1 H a b fun _ a=>k (.tup []) a n))
def s288_1:KR:=fun c d e=>mQ (s288_0 d k e a c b) (lenSl c)
def s288_2:KR:=fun d e f=>mR (s288_1 k a b) (appK 3 e f d c)
def s288(_:Nat):Hand:=fun _ _ a b c d=>arg1 a fun a e=>arg1 e fun e f=>arg1 f fun f g=>arg0 g (nilK a (faddrK 9 a fun g=>loadK b g fun g=>iaddrK 4 g e fun g=>faddrK 0 g fun g=>loadK b g fun g=>mR (s288_2 d a e f) (appK 3 b c .nils g)))
theorem h288:HO 288 s288:=hO 3 (T2 L0 (T2 L0 (T2 L0 (T2 (T2 L0 (T2 .stop L0)) L0)))) Tryz.func288 Tryz.call288 fun N F G l H n k=>by kernel_rfl
def s289_0:KQ:=fun b=>addI b a fun a=>leqI a (I 8000) fun a=>k a H n
def s289(_:Nat):Hand:=fun _ _ a b c d=>arg1 a fun a e=>arg1 e fun e f=>arg0 f (nilK a (faddrK 0 a fun a=>loadK b a fun a=>nilK a (faddrK 0 a fun a=>loadK b a fun a=>mQ (s289_0 b d c e) (lenSl a))))
theorem h289:HO 289 s289:=hO 2 (T2 L0 (T2 L0 L0)) Tryz.func289 Tryz.call289 fun N F G l H n k=>by kernel_rfl
def s290_0:KR:=fun c d e=>iaddrK 1 c a fun a=>storeK 1 d a b fun _ a=>k c a e
def s290(_:Nat):Hand:=fun _ _ a b c d=>arg1 a fun a e=>arg1 e fun e f=>arg1 f fun f g=>arg0 g (newK [] b c fun b=>forceN (Nat.succ c) fun g=>mR (s290_0 d e f) (appK 1 b g (.sl c 0 0 (.known 0)) a))
theorem h290:HO 290 s290:=hO 3 (T2 L0 (T2 L0 (T2 L0 (T2 L0 L0)))) Tryz.func290 Tryz.call290 fun N F G l H n k=>by kernel_rfl
def s291_0:KQ:=fun d=>AV.ckOne (I 3) (AV.ckOne c (AV.ckOne d (F 293 [a,b,.agg [I 3,I 0,c,d]] H n k)))
def s291_1:KJ:=fun _ d e=>iaddrK 1 c (I 0) fun f=>loadK d f fun f=>mQ (s291_0 F d k e a f b) (sliceK 1 c (some (I 1)) none)
def s291(_:Nat):Hand:=fun a _ b c d e=>arg1 b fun b f=>arg1 f fun f g=>arg1 g fun g h=>arg1 h fun h i=>arg1 i fun i j=>arg0 j (mJ (s291_1 a e b g i) fun g=>strB .eql f (.str 4 1684957538) fun j=>cB j false (strB .eql f (.str 3 7630441) fun j=>cB j (iaddrK 1 i (I 0) fun f=>loadK c f fun f=>AV.ckOne (I 1) (AV.ckOne h (a 293 [b,f,.agg [I 1,h,.str 0 0,.nils]] c d e))) (strB .eql f (.str 4 1836020833) fun a=>cB a false (g [] c d))))
theorem h291:HO 291 s291:=hO 5 (T2 L0 (T2 (T2 L0 (.one [] (T2 L0 (T2 .stop (T2 L0 (T2 (T2 L0 L0) (T2 L0 (T2 .stop L0)))))))) (T2 L0 L0))) Tryz.func291 Tryz.call291 fun N F G l H n k=>by kernel_rfl
def s292(_:Nat):Hand:=fun a _ b c d e=>arg1 b fun b f=>arg1 f fun f g=>arg1 g fun g h=>arg1 h fun h i=>arg1 i fun i j=>arg0 j (boxE g c d fun c g=>forceN (Nat.succ d) fun d=>geqI h (I 0) fun j=>cB j (loadNK 3 g c fun c=>a 339 [b,f,c,h] g d fun _ a b=>e (.tup []) a b) (geqI i (I 0) fun a=>cB a false (e (.tup []) g d)))
theorem h292:HO 292 s292:=hO 5 (T2 L0 (T2 L0 (T2 L0 (T2 L0 (T2 .stop L0))))) Tryz.func292 Tryz.call292 fun N F G l H n k=>by kernel_rfl
def s293_0:KJ:=fun c d e=>arg1 c fun c _=>F 338 [a,b,c] d e k
def s293(_:Nat):Hand:=fun a _ b c d e=>arg1 b fun b f=>arg1 f fun f g=>arg1 g fun g h=>arg0 h (boxE g c d fun c g=>forceN (Nat.succ d) fun d=>a 289 [b,I 1] g d fun d g h=>notB d fun d=>cB d false (faddrK 0 c fun d=>loadK g d fun d=>mJ (s293_0 a e b f) fun e=>eqlI d (I 1) fun f=>cB f (nilK b (faddrK 0 b fun b=>loadK g b fun b=>faddrK 1 c fun c=>loadK g c fun c=>a 340 [b,c] g h fun a b c=>extK 0 a fun d=>extK 1 a fun _=>e [d] b c)) (eqlI d (I 2) fun f=>cB f false (eqlI d (I 3) fun d=>cB d (nilK b (faddrK 0 b fun b=>loadK g b fun b=>faddrK 2 c fun d=>loadK g d fun d=>faddrK 3 c fun c=>loadK g c fun c=>a 341 [b,d,c] g h fun a b c=>extK 0 a fun d=>extK 1 a fun _=>e [d] b c)) false))))
theorem h293:HO 293 s293:=hO 3 (T2 L0 (T2 (T2 L0 (T2 .stop L0)) (T2 L0 (T2 (T2 L0 (.one [7] (T2 L0 (T2 L0 (T2 L0 (T2 .stop (T2 L0 (T2 L0 .stop)))))))) (T2 L0 L0))))) Tryz.func293 Tryz.call293 fun N F G l H n k=>by kernel_rfl
def s294_0:KR:=fun b c d=>nilK a (faddrK 9 a fun a=>storeK 1 c a b fun _ a=>k fT a d)
def s294_1:KQ:=fun d=>geqI d (I 64) fun d=>cB d false (nilK a (faddrK 9 a fun d=>loadK H d fun d=>AV.ckOne b (AV.ckOne c (Ev.layK 0 3 true (.agg [b,.bool false,c]) [I 0,.bool false,.nils] fun b=>newK b H n fun b=>forceN (Nat.succ n) fun c=>AV.ckOne (.sl n 0 1 (.known 1)) (Ev.layK 0 4 true (.agg [.sl n 0 1 (.known 1),.nils,.bool false,I 0]) [.nils,.nils,.bool false,I 0] fun e=>newK e b c fun b=>forceN (Nat.succ c) fun e=>mR (s294_0 k a) (appK 4 b e d (.sl c 0 1 (.known 1))))))))
def s294(_:Nat):Hand:=fun _ _ a b c d=>arg1 a fun a e=>arg1 e fun e f=>arg1 f fun f g=>arg0 g (nilK a (faddrK 9 a fun g=>loadK b g fun g=>mQ (s294_1 b d c a e f) (lenSl g)))
theorem h294:HO 294 s294:=hO 3 (T2 L0 (T2 (T2 L0 (T2 .stop L0)) (T2 L0 (T2 L0 L0)))) Tryz.func294 Tryz.call294 fun N F G l H n k=>by kernel_rfl
def s299_0:KQ:=fun f=>F 347 [c,d,f] H n fun c d f=>extK 0 c fun g=>extK 1 c fun c=>loadNK 3 d e fun e=>F 292 [a,b,e,g,c] d f fun _ a b=>k (.tup []) a b
def s299_1:KR:=fun f g h=>pickK c fT f fun c=>cB c false (faddrK 1 (.ptr n 0) fun c=>loadK g c fun c=>lssI c (I 10) fun c=>cB c (nilK a (faddrK 0 a fun c=>faddrK 1 (.ptr n 0) fun f=>loadK g f fun f=>mQ (s299_0 F g k h a b c f e) (sliceK 1 d (some (I 1)) none))) false)
def s299_2:KR:=fun f g h=>jRn c g h (s299_1 F k n a b c d e) fun a=>strB .neq f (.str 4 1668248176) fun b=>a b g h
def s299_3:KR:=fun f g h=>jRn c g h (s299_2 F k n a b c d e) fun a=>loadK g f fun b=>a b g h
def s299(_:Nat):Hand:=fun a _ b c d e=>arg1 b fun b f=>arg1 f fun f g=>arg1 g fun g h=>arg1 h fun h i=>arg0 i (boxE g c d fun c g=>forceN (Nat.succ d) fun d=>nilK b (faddrK 0 b fun i=>iaddrK 1 h (I 0) fun j=>loadK g j fun j=>a 286 [i,j] g d fun d g i=>cB d false (forceN (Nat.add i 1) fun d=>nilK b (faddrK 0 b fun j=>iaddrK 1 h (I 0) fun l=>loadK g l fun l=>a 344 [j,l] g d fun d g j=>forceN (Nat.add i 0) fun i=>newK [I 0,I 0,.str 0 0,.nils] g i fun l=>at_ l i fun l=>hput g i l fun l=>storeK 4 l (.ptr i 0) d fun _ d=>at_ g i fun g=>Blk.ckDead g (faddrK 0 (.ptr i 0) fun g=>loadK d g fun g=>neqI g (I 4) fun g=>jRn g d j (s299_3 a e i b f g h c) fun a=>faddrK 2 (.ptr i 0) fun b=>a b d j)))))
theorem h299:HO 299 s299:=hO 4 (T2 L0 (T2 (T2 L0 (T2 .stop L0)) (T2 L0 (T2 (T2 L0 (T2 .stop L0)) (T2 (T2 L0 (T2 (T2 L0 (T2 L0 L0)) .stop)) .stop))))) Tryz.func299 Tryz.call299 fun N F G l H n k=>by kernel_rfl
def s300_0:KJ:=fun a b c=>arg1 a fun a _=>k a b c
def s300_1:KJ:=fun b c d=>arg1 b fun b _=>addI a (I 1) fun a=>j [b,a] c d
def s300_2:KQ:=fun d=>lssI c d fun d=>cB d (mJ (s300_1 j c) fun d=>F 217 [a,c] H n fun e f g=>strB .eql e (.str 7 29113321804882295) fun e=>cB e (forceN (Nat.add g 1) fun e=>nilK a (faddrK 0 a fun h=>faddrK 0 h fun h=>loadK f h fun h=>nilK h (faddrK 1 h fun h=>loadK f h fun h=>nilK a (faddrK 9 a fun a=>loadK f a fun a=>iaddrK 4 a c fun a=>faddrK 1 a fun a=>loadK f a fun a=>iaddrK 1 a (I 0) fun a=>loadK f a fun a=>iaddrK 1 h a fun a=>loadK f a fun a=>forceN (Nat.add g 0) fun c=>AV.ckOne a (newK [a] f c fun a=>at_ a c fun a=>hput f c a fun a=>mR (fun a b c=>d [a] b c) (appK 1 a e b (.sl c 0 1 (.known 1)))))))) (d [b] f g)) (J [b] H n)
def s300_3:KJ→KJ:=fun b c d e=>arg1 c fun c f=>arg1 f fun f _=>nilK a (faddrK 9 a fun g=>loadK d g fun g=>mQ (s300_2 F b j d e a c f) (lenSl g))
def s300(a:Nat):Hand:=fun b _ c d e f=>arg1 c fun c g=>arg0 g (mJ (s300_0 f) fun f=>iterN a (s300_3 b f c) [.nils,I 0] d e)
theorem h300:HO 300 s300:=hO 1 (T2 L0 (T2 L0 (T2 (T2 L0 (.one [3] (.one [3,4] (T2 (T2 L0 (T2 L0 L0)) (T2 (.one [3] (T2 L0 (T2 L0 L0))) L0))))) (T2 L0 L0)))) Tryz.func300 Tryz.call300 fun N F G l H n k=>by kernel_rfl
def s301_0:KR:=fun b c d=>pickK a b fF fun a=>k a c d
def s301_1:KR:=fun b c d=>jR a c d (s301_0 k a) fun a=>leqI b (.int .u8 (.ofNat 57)) fun b=>a b c d
def s301_2:KR:=fun c d e=>jR a d e (s301_1 k a) fun a=>indexStrK b c fun b=>a b d e
def s301_3:KR:=fun c d e=>jR b d e (s301_2 k b c) fun b=>b a d e
def s301_4:KR:=fun d e f=>pickK c d fF fun c=>jR c e f (s301_3 k b c) fun b=>b a e f
def s301_5:KR:=fun d e f=>jR c e f (s301_4 k a b c) fun a=>geqI d (.int .u8 (.ofNat 48)) fun b=>a b e f
def s301_6:KR:=fun e f g=>jR c f g (s301_5 k a b c) fun a=>indexStrK d e fun b=>a b f g
def s301_7:KR:=fun d e f=>jR c e f (s301_6 k a b c d) fun a=>a b e f
def s301_8:KQ:=fun c=>lssI b c fun c=>jR c H n (s301_7 k a b c) fun b=>b a H n
def s301(_:Nat):Hand:=fun _ _ a b c d=>arg1 a fun a e=>arg1 e fun e f=>arg0 f (mQ (s301_8 b d c a e) (lenStr a))
theorem h301:HO 301 s301:=hO 2 (T2 L0 (T2 L0 L0)) Tryz.func301 Tryz.call301 fun N F G l H n k=>by kernel_rfl
def s302_0:KQ:=fun e=>indexStrK a c fun a=>eqlI a (.int .u8 (.ofNat 126)) fun a=>cB a false (AV.ckOne (I 1) (AV.ckOne e (AV.ckOne c (leqI d (I 1099511627776) fun a=>storeK 3 H (.ptr n 0) (.agg [I 1,e,c]) fun _ c=>loadNK 3 c (.ptr n 0) fun d=>AV.ckOk d (AV.ckOk b (AV.ckOk a (k (.tup [d,b,a]) c m)))))))
def s302_1:KQ:=fun d=>F 348 [d] H m fun d e f=>mQ (s302_0 e k n f a b c d) (sliceStrK a (some c) (some b))
def s302_2:KR:=fun e f g=>pickK d fT e fun d=>cB d false (mQ (s302_1 F f k n g a b c) (sliceStrK a (some c) (some b)))
def s302_3:KR:=fun f g h=>jRn d g h (s302_2 F k n a b c d) fun a=>pickK e f fF fun b=>a b g h
def s302_4:KR:=fun g h i=>jR e h i (s302_3 F k n a b c d e) fun a=>pickK f fT g fun b=>a b h i
def s302_5:KR:=fun g h i=>jRn f h i (s302_4 F k n a b c d e f) fun a=>eqlI g (.int .u8 (.ofNat 126)) fun b=>a b h i
def s302_6:KR:=fun h i j=>jRn f i j (s302_5 F k n a b c d e f) fun a=>indexStrK g h fun b=>a b i j
def s302_7:KR:=fun g h i=>jRn f h i (s302_6 F k n a b c d e f g) fun a=>a c h i
def s302_8:KR:=fun f g h=>jRn f g h (s302_7 F k n a b c d e f) fun b=>b a g h
def s302_9:KR:=fun f g h=>jR e g h (s302_8 F k n a b c d e) fun a=>a f g h
def s302_10:KR:=fun f g h=>jR e g h (s302_9 F k n a b c d e) fun a=>gtrI f (I 1) fun b=>a b g h
def s302_11:KR:=fun g h i=>jR e h i (s302_10 F k n a b c d e) fun a=>subI f g fun b=>a b h i
def s302_12:KR:=fun f g h=>jR e g h (s302_11 F k n a b c d e f) fun a=>a c g h
def s302_13:KR:=fun e f g=>jR e f g (s302_12 F k n a b c d e) fun a=>a b f g
def s302_14:KR:=fun e f g=>jRn d f g (s302_13 F k n a b c d) fun a=>a e f g
def s302_15:KR:=fun e f g=>jRn d f g (s302_14 F k n a b c d) fun a=>eqlI e (.int .u8 (.ofNat 48)) fun b=>a b f g
def s302_16:KR:=fun f g h=>jRn d g h (s302_15 F k n a b c d) fun a=>indexStrK e f fun b=>a b g h
def s302_17:KR:=fun e f g=>jRn d f g (s302_16 F k n a b c d e) fun a=>a c f g
def s302_18:KR:=fun e f g=>pickK c fT e fun c=>jRn c f g (s302_17 F k n a b d c) fun b=>b a f g
def s302_19:KR:=fun e f g=>jRn c f g (s302_18 F k n a b c d) fun a=>gtrI e (I 13) fun b=>a b f g
def s302_20:KR:=fun f g h=>jRn c g h (s302_19 F k n a b c e) fun a=>subI d f fun b=>a b g h
def s302_21:KR:=fun e f g=>jRn c f g (s302_20 F k n a b c e d) fun a=>a d f g
def s302_22:KJ:=fun c d e=>arg1 c fun c _=>eqlI c b fun f=>jRn f d e (s302_21 F k n a c f b) fun a=>a c d e
def s302_23:KJ:=fun a b c=>arg1 a fun a _=>j [a] b c
def s302_24:KJ→KJ:=fun b c d e=>arg1 c fun c _=>F 301 [a,c] d e fun a d e=>cB a (mJ (s302_23 b) fun a=>addI c (I 1) fun b=>a [b] d e) (j [c] d e)
def s302(a:Nat):Hand:=fun b _ c d e f=>arg1 c fun c g=>arg1 g fun g h=>arg0 h (newK [I 0,.str 0 0,I 0] d e fun d=>forceN (Nat.succ e) fun h=>indexStrK c g fun i=>eqlI i (.int .u8 (.ofNat 126)) fun i=>cB i false (mJ (s302_22 b f e c g) fun e=>iterN a (s302_24 b e c) [g] d h))
theorem h302:HO 302 s302:=hO 2 (T2 L0 (T2 L0 (T2 (T2 L0 (T2 .stop L0)) (T2 L0 (T2 (.one [7] (.one [7] (T2 (T2 L0 (T2 L0 L0)) (.one [7] L0)))) (T2 (T2 L0 (T2 .stop L0)) (T2 L0 (T2 L0 (T2 (T2 L0 (T2 .stop L0)) (T2 L0 L0)))))))))) Tryz.func302 Tryz.call302 fun N F G l H n k=>by kernel_rfl
def s303(_:Nat):Hand:=fun a _ b c d e=>arg1 b fun b f=>arg0 f (a 349 [] c d fun c d f=>a 304 [c,b] d f e)
theorem h303:HO 303 s303:=hO 1 (T2 L0 (T2 L0 L0)) Tryz.func303 Tryz.call303 fun N F G l H n k=>by kernel_rfl
def s304_0:KJ:=fun _ b c=>addI a (I 1) fun a=>j [a] b c
def s304_1:KQ:=fun d=>lssI b d fun d=>cB d (mJ (s304_0 j b) fun d=>iaddrK 1 a b fun a=>loadK H a fun a=>strB .eql a c fun a=>cB a (k fT H n) (d [] H n)) (J [] H n)
def s304_2:KJ→KJ:=fun c d e f=>arg1 d fun d _=>mQ (s304_1 c j e k f a d b) (lenSl a)
def s304(a:Nat):Hand:=fun _ _ b c d e=>arg1 b fun b f=>arg1 f fun f g=>arg0 g (mJ (fun _ a b=>e fF a b) fun g=>iterN a (s304_2 g e b f) [I 0] c d)
theorem h304:HO 304 s304:=hO 2 (T2 L0 (T2 (T2 L0 (.one [] (.one [5] (T2 (T2 L0 (T2 L0 L0)) (T2 (.one [] (T2 L0 (T2 (T2 L0 L0) L0))) L0))))) (T2 L0 L0))) Tryz.func304 Tryz.call304 fun N F G l H n k=>by kernel_rfl
def s305(_:Nat):Hand:=fun _ _ a b c d=>arg0 a (AV.ckOne (.str 1 123) (AV.ckOne (.str 1 125) (AV.ckOne (.str 1 40) (AV.ckOne (.str 1 41) (AV.ckOne (.str 1 91) (AV.ckOne (.str 1 93) (AV.ckOne (.str 2 23899) (AV.ckOne (.str 1 124) (AV.ckOne (.str 1 36) (AV.ckOne (.str 1 61) (AV.ckOne (.str 2 15677) (AV.ckOne (.str 2 15708) (AV.ckOne (.str 1 60) (AV.ckOne (.str 2 15421) (AV.ckOne (.str 1 62) (AV.ckOne (.str 2 15678) (AV.ckOne (.str 1 43) (AV.ckOne (.str 1 45) (AV.ckOne (.str 1 42) (AV.ckOne (.str 1 95) (newK [.str 1 123,.str 1 125,.str 1 40,.str 1 41,.str 1 91,.str 1 93,.str 2 23899,.str 1 124,.str 1 36,.str 1 61,.str 2 15677,.str 2 15708,.str 1 60,.str 2 15421,.str 1 62,.str 2 15678,.str 1 43,.str 1 45,.str 1 42,.str 1 95] b c fun a=>forceN (Nat.succ c) (d (.sl c 0 20 (.known 20)) a))))))))))))))))))))))
theorem h305:HO 305 s305:=hO 0 (T2 L0 (T2 L0 L0)) Tryz.func305 Tryz.call305 fun N F G l H n k=>by kernel_rfl
def s306_0:KJ:=fun _ a b=>loadNK 4 a (.ptr m 0) fun c=>storeK 4 a (.ptr n 0) c fun _ a=>loadNK 4 a (.ptr n 0) fun c=>k c a b
def s306_1:KJ:=fun _ g h=>j [a,b,c,d,e,f] g h
def s306_2:KR:=fun h i l=>pickK b h fF fun b=>cB b (mJ (s306_1 J c d e f g h) fun b=>nilK a (faddrK 0 a fun c=>loadK i c fun c=>nilK a (faddrK 1 a fun d=>loadK i d fun d=>iaddrK 3 c d fun c=>faddrK 1 c fun c=>loadK i c fun c=>nilK a (faddrK 1 a fun d=>loadK i d fun d=>addI d (I 1) fun d=>nilK a (faddrK 1 a fun e=>storeK 1 i e d fun _ d=>F 350 [a] d l fun a d e=>newK [.str 0 0,.str 0 0,I 0,.nils] d e fun d=>forceN (Nat.succ e) fun f=>storeK 4 d (.ptr e 0) a fun _ a=>loadNK 4 a (.ptr n 0) fun d=>loadNK 4 a (.ptr e 0) fun e=>Ev.layK 0 4 true d [.str 0 0,.str 0 0,I 0,.nils,.str 0 0,.str 0 0,I 0,.nils] fun d=>Ev.layK 4 4 true e d fun d=>newK d a f fun a=>forceN (Nat.succ f) fun d=>AV.ckOne (.str 2 28783) (AV.ckOne c (AV.ckOne (.sl f 0 2 (.known 2)) (storeK 4 a (.ptr n 0) (.agg [.str 2 28783,c,I 0,.sl f 0 2 (.known 2)]) fun _ a=>b [] a d)))))))) (j [] i l)
def s306_3:KR:=fun g h i=>jR b h i (s306_2 F j J n a b c d e f g) fun a=>pickK e fT g fun b=>a b h i
def s306_4:KR:=fun f g h=>jRn e g h (s306_3 F j J n a b c d e f) (F 307 [f,.str 1 45] g h)
def s306_5:KR:=fun e f g=>jRn e f g (s306_4 F j J n a b c d e) fun b=>b a f g
def s306_6:KR:=fun d e f=>jR b e f (s306_5 F j J n a b c d) fun a=>a d e f
def s306_7:KR:=fun c d e=>jR b d e (s306_6 F j J n a b c) (F 307 [c,.str 1 43] d e)
def s306_8:KJ→KJ:=fun b c d e=>arg1 c fun _ c=>arg1 c fun _ c=>arg1 c fun _ c=>arg1 c fun _ c=>arg1 c fun _ c=>arg1 c fun _ _=>nilK a (faddrK 2 a fun c=>loadK d c fun c=>notB c fun c=>jR c d e (s306_7 F j b n a c) fun b=>b a d e)
def s306(a:Nat):Hand:=fun b _ c d e f=>arg1 c fun c g=>arg0 g (newK [.str 0 0,.str 0 0,I 0,.nils] d e fun d=>forceN (Nat.succ e) fun g=>b 350 [c] d g fun d g h=>newK [.str 0 0,.str 0 0,I 0,.nils] g h fun g=>forceN (Nat.succ h) fun i=>storeK 4 g (.ptr h 0) d fun _ d=>mJ (s306_0 f e h) fun e=>iterN a (s306_8 b e h c) [.bad,.bad,.bad,.bad,.bad,.bad] d i)
theorem h306:HO 306 s306:=hO 1 (T2 L0 (T2 L0 (T2 (.one [] (.one [14,15,16,17,18,19] (T2 (T2 L0 (T2 L0 L0)) (.one [] (T2 L0 (T2 L0 (T2 L0 L0))))))) (T2 L0 L0)))) Tryz.func306 Tryz.call306 fun N F G l H n k=>by kernel_rfl
def s307_0:KQ:=fun b=>pickK a b fF fun a=>k a H n
def s307_1:KQ:=fun c=>jQ a (s307_0 H k n a) (pickK b fT c)
def s307_2:KQ:=fun c=>jQn b (s307_1 H k n a b) (eqlI c (I 5))
def s307_3:KQ:=fun c=>jQn b (s307_2 H k n a b) (loadK H c)
def s307_4:KQ:=fun c=>jQn b (s307_3 H k n a b) (faddrK 0 c)
def s307_5:KQ:=fun d=>jQn b (s307_4 H k n a b) (iaddrK 3 c d)
def s307_6:KQ:=fun d=>jQn b (s307_5 H k n a b c) (loadK H d)
def s307_7:KQ:=fun d=>jQn b (s307_6 H k n a b c) (faddrK 1 d)
def s307_8:KQ:=fun d=>jQn b (s307_7 H k n a b c) fun a=>nilK d (a d)
def s307_9:KQ:=fun d=>jQn c (s307_8 H k n b c d) fun b=>b a
def s307_10:KQ:=fun d=>jQn c (s307_9 H k n a b c) (loadK H d)
def s307_11:KQ:=fun d=>jQn c (s307_10 H k n a b c) (faddrK 0 d)
def s307_12:KQ:=fun d=>jQn c (s307_11 H k n a b c) fun a=>nilK d (a d)
def s307_13:KQ:=fun c=>jQn c (s307_12 H k n a b c) fun b=>b a
def s307_14:KQ:=fun c=>jQ b (s307_13 H k n a b) fun a=>a c
def s307_15:KQ:=fun c=>jQ b (s307_14 H k n a b) (eqlI c (I 4))
def s307_16:KQ:=fun c=>jQ b (s307_15 H k n a b) (loadK H c)
def s307_17:KQ:=fun c=>jQ b (s307_16 H k n a b) (faddrK 0 c)
def s307_18:KQ:=fun d=>jQ b (s307_17 H k n a b) (iaddrK 3 c d)
def s307_19:KQ:=fun d=>jQ b (s307_18 H k n a b c) (loadK H d)
def s307_20:KQ:=fun d=>jQ b (s307_19 H k n a b c) (faddrK 1 d)
def s307_21:KQ:=fun d=>jQ b (s307_20 H k n a b c) fun a=>nilK d (a d)
def s307_22:KQ:=fun c=>jQ b (s307_21 H k n a b c) fun b=>b a
def s307_23:KQ:=fun c=>jQ b (s307_22 H k n a b) (loadK H c)
def s307_24:KQ:=fun c=>jQ b (s307_23 H k n a b) (faddrK 0 c)
def s307_25:KQ:=fun c=>jQ b (s307_24 H k n a b) fun a=>nilK c (a c)
def s307_26:KQ:=fun c=>pickK b c fF fun b=>jQ b (s307_25 H k n a b) fun b=>b a
def s307_27:KQ:=fun d=>jQ c (s307_26 H k n a c) (strB .eql b d)
def s307_28:KQ:=fun d=>jQ c (s307_27 H k n a d c) fun a=>a b
def s307_29:KQ:=fun d=>jQ c (s307_28 H k n a b c) (loadK H d)
def s307_30:KQ:=fun d=>jQ c (s307_29 H k n a b c) (faddrK 1 d)
def s307_31:KQ:=fun e=>jQ d (s307_30 H k n a c d) (iaddrK 3 b e)
def s307_32:KQ:=fun e=>jQ d (s307_31 H k n a b c d) (loadK H e)
def s307_33:KQ:=fun e=>jQ d (s307_32 H k n a b c d) (faddrK 1 e)
def s307_34:KQ:=fun e=>jQ d (s307_33 H k n a b c d) fun a=>nilK e (a e)
def s307_35:KQ:=fun d=>jQ c (s307_34 H k n a d b c) fun b=>b a
def s307_36:KQ:=fun d=>jQ c (s307_35 H k n a b c) (loadK H d)
def s307_37:KQ:=fun d=>jQ c (s307_36 H k n a b c) (faddrK 0 d)
def s307_38:KQ:=fun d=>jQ c (s307_37 H k n a b c) fun a=>nilK d (a d)
def s307_39:KQ:=fun d=>lssI c d fun c=>jQ c (s307_38 H k n a b c) fun b=>b a
def s307(_:Nat):Hand:=fun _ _ a b c d=>arg1 a fun a e=>arg1 e fun e f=>arg0 f (nilK a (faddrK 1 a fun f=>loadK b f fun f=>nilK a (faddrK 0 a fun g=>loadK b g fun g=>mQ (s307_39 b d c a e f) (lenSl g))))
theorem h307:HO 307 s307:=hO 2 (T2 L0 (T2 L0 L0)) Tryz.func307 Tryz.call307 fun N F G l H n k=>by kernel_rfl
def s308_0:KJ:=fun a b c=>arg1 a fun a _=>F 229 [a] b c fun b c d=>notB b fun b=>cB b false (k a c d)
def s308_1:KJ→KJ:=fun _ b c d=>arg1 b fun b _=>F 315 [a] c d fun a c d=>eqlI a (I 3) fun a=>cB a false (j [b] c d)
def s308(a:Nat):Hand:=fun b _ c d e f=>arg1 c fun c g=>arg0 g (b 312 [c] d e fun d e g=>Ev.layK 0 4 true d [.str 0 0,.str 0 0,I 0,.nils] fun d=>newK d e g fun d=>forceN (Nat.succ g) fun e=>mJ (s308_0 b f) fun f=>iterN a (s308_1 b f c) [.sl g 0 1 (.known 1)] d e)
theorem h308:HO 308 s308:=hO 1 (T2 L0 (T2 L0 (T2 (.one [3] (.one [3] (T2 (T2 L0 (T2 .stop L0)) .stop))) (T2 (T2 L0 (T2 .stop L0)) (T2 L0 L0))))) Tryz.func308 Tryz.call308 fun N F G l H n k=>by kernel_rfl
def s309(_:Nat):Hand:=fun a _ b c d e=>arg1 b fun b f=>arg1 f fun f g=>arg0 g (a 225 [b,f] c d fun a b c=>notB a fun a=>cB a false (e (.tup []) b c))
theorem h309:HO 309 s309:=hO 2 (T2 L0 (T2 .stop L0)) Tryz.func309 Tryz.call309 fun N F G l H n k=>by kernel_rfl
def s310(_:Nat):Hand:=fun a _ b c d e=>arg1 b fun b f=>arg0 f (newK [.str 0 0,.str 0 0,I 0,.nils] c d fun c=>forceN (Nat.succ d) fun f=>a 131 [b] c f fun c f g=>newK [.str 0 0,.str 0 0,I 0,.nils] f g fun f=>forceN (Nat.succ g) fun h=>storeK 4 f (.ptr g 0) c fun _ c=>a 309 [b,.str 4 1852139636] c h fun _ c f=>a 132 [b] c f fun c f h=>newK [.str 0 0,.str 0 0,I 0,.nils] f h fun f=>forceN (Nat.succ h) fun i=>storeK 4 f (.ptr h 0) c fun _ c=>AV.ckOne (.str 4 1885956979) (newK [.str 0 0,.str 0 0,I 0,.nils] c i fun c=>forceN (Nat.succ i) fun f=>storeK 4 c (.ptr i 0) (.agg [.str 4 1885956979,.str 0 0,I 0,.nils]) fun _ c=>a 225 [b,.str 4 1702063205] c f fun c f j=>cB c (a 132 [b] f j fun c f j=>storeK 4 f (.ptr i 0) c fun _ c=>a 309 [b,.str 3 6581861] c j fun _ a b=>loadNK 4 a (.ptr g 0) fun c=>loadNK 4 a (.ptr h 0) fun f=>loadNK 4 a (.ptr i 0) fun g=>Ev.layK 0 4 true c [.str 0 0,.str 0 0,I 0,.nils,.str 0 0,.str 0 0,I 0,.nils,.str 0 0,.str 0 0,I 0,.nils] fun c=>Ev.layK 4 4 true f c fun c=>Ev.layK 8 4 true g c fun c=>newK c a b fun a=>forceN (Nat.succ b) fun c=>AV.ckOne (.str 2 26217) (AV.ckOne (.sl b 0 3 (.known 3)) (storeK 4 a (.ptr d 0) (.agg [.str 2 26217,.str 0 0,I 0,.sl b 0 3 (.known 3)]) fun _ a=>loadNK 4 a (.ptr d 0) fun b=>e b a c))) false))
theorem h310:HO 310 s310:=hO 1 (T2 L0 (T2 L0 (T2 L0 (T2 L0 (T2 L0 (T2 (T2 L0 (T2 L0 .stop)) (T2 L0 (T2 L0 L0)))))))) Tryz.func310 Tryz.call310 fun N F G l H n k=>by kernel_rfl
def s312(_:Nat):Hand:=fun a _ b c d e=>arg1 b fun b f=>arg0 f (newK [.str 0 0,.str 0 0,I 0,.nils] c d fun c=>forceN (Nat.succ d) fun f=>a 315 [b] c f fun a c f=>neqI a (I 3) fun a=>cB a false (nilK b (faddrK 1 b fun a=>loadK c a fun a=>addI a (I 1) fun a=>nilK b (faddrK 1 b fun g=>storeK 1 c g a fun _ a=>nilK b (faddrK 0 b fun c=>loadK a c fun c=>nilK b (faddrK 1 b fun b=>loadK a b fun b=>subI b (I 1) fun b=>iaddrK 3 c b fun b=>faddrK 1 b fun b=>loadK a b fun b=>AV.ckOne (.str 3 7496054) (AV.ckOne b (storeK 4 a (.ptr d 0) (.agg [.str 3 7496054,b,I 0,.nils]) fun _ a=>loadNK 4 a (.ptr d 0) fun b=>e b a f))))))))
theorem h312:HO 312 s312:=hO 1 (T2 L0 (T2 (T2 L0 (T2 .stop L0)) (T2 L0 (T2 L0 L0)))) Tryz.func312 Tryz.call312 fun N F G l H n k=>by kernel_rfl
def s313_0:KJ:=fun a b c=>arg1 a fun a _=>F 229 [a] b c fun b c d=>notB b fun b=>cB b false (k a c d)
def s313_1:KJ:=fun d e f=>arg1 d fun d _=>j [d,a,b,c] e f
def s313_2:KR:=fun f g h=>pickK c f fF fun c=>cB c (mJ (s313_1 J d e f) fun c=>F 225 [a,.str 1 95] g h fun d e f=>cB d false (F 312 [a] e f fun a d e=>Ev.layK 0 4 true a [.str 0 0,.str 0 0,I 0,.nils] fun a=>newK a d e fun a=>forceN (Nat.succ e) fun d=>mR (fun a b d=>c [a] b d) (appK 4 a d b (.sl e 0 1 (.known 1))))) (j [b] g h)
def s313_3:KR:=fun e f g=>jR c f g (s313_2 F j J a b c d e) fun a=>notB e fun b=>a b f g
def s313_4:KR:=fun d e f=>jR c e f (s313_3 F j J a b c d) (F 225 [d,.str 1 125] e f)
def s313_5:KJ→KJ:=fun b c d e=>arg1 c fun c f=>arg1 f fun _ f=>arg1 f fun _ f=>arg1 f fun _ _=>nilK a (faddrK 2 a fun f=>loadK d f fun f=>notB f fun f=>jR f d e (s313_4 F j b a c f) fun b=>b a d e)
def s313(a:Nat):Hand:=fun b _ c d e f=>arg1 c fun c g=>arg0 g (mJ (s313_0 b f) fun f=>iterN a (s313_5 b f c) [.nils,.bad,.bad,.bad] d e)
theorem h313:HO 313 s313:=hO 1 (T2 L0 (T2 L0 (T2 (.one [3] (.one [3,10,11,12] (T2 (T2 L0 (T2 L0 L0)) (.one [3] (T2 L0 (T2 .stop L0)))))) (T2 (T2 L0 (T2 .stop L0)) (T2 L0 L0))))) Tryz.func313 Tryz.call313 fun N F G l H n k=>by kernel_rfl
def s314_0:KJ:=fun _ b c=>F 131 [a] b c fun b c d=>newK [.str 0 0,.str 0 0,I 0,.nils] c d fun c=>forceN (Nat.succ d) fun e=>storeK 4 c (.ptr d 0) b fun _ b=>F 225 [a,.str 1 61] b e fun b c e=>cB b (F 131 [a] c e fun a b c=>newK [.str 0 0,.str 0 0,I 0,.nils] b c fun b=>forceN (Nat.succ c) fun e=>storeK 4 b (.ptr c 0) a fun _ a=>loadNK 4 a (.ptr d 0) fun b=>loadNK 4 a (.ptr c 0) fun c=>Ev.layK 0 4 true b [.str 0 0,.str 0 0,I 0,.nils,.str 0 0,.str 0 0,I 0,.nils] fun b=>Ev.layK 4 4 true c b fun b=>newK b a e fun a=>forceN (Nat.succ e) fun b=>AV.ckOne (.str 2 29029) (AV.ckOne (.sl e 0 2 (.known 2)) (storeK 4 a (.ptr n 0) (.agg [.str 2 29029,.str 0 0,I 0,.sl e 0 2 (.known 2)]) fun _ a=>loadNK 4 a (.ptr n 0) fun c=>k c a b))) (faddrK 0 (.ptr d 0) fun a=>loadK c a fun a=>strB .neq a (.str 4 1819042147) fun a=>cB a false (faddrK 3 (.ptr d 0) fun a=>loadK c a fun a=>AV.ckOne (.str 5 521510350945) (AV.ckOne a (storeK 4 c (.ptr n 0) (.agg [.str 5 521510350945,.str 0 0,I 0,a]) fun _ a=>loadNK 4 a (.ptr n 0) fun b=>k b a e))))
def s314(_:Nat):Hand:=fun a _ b c d e=>arg1 b fun b f=>arg0 f (newK [.str 0 0,.str 0 0,I 0,.nils] c d fun c=>forceN (Nat.succ d) fun f=>mJ (s314_0 a e d b) fun g=>a 225 [b,.str 6 110369476601972] c f fun c f h=>cB c (a 132 [b] f h fun c f g=>newK [.str 0 0,.str 0 0,I 0,.nils] f g fun f=>forceN (Nat.succ g) fun h=>storeK 4 f (.ptr g 0) c fun _ c=>a 309 [b,.str 3 6581861] c h fun _ a b=>loadNK 4 a (.ptr g 0) fun c=>Ev.layK 0 4 true c [.str 0 0,.str 0 0,I 0,.nils] fun c=>newK c a b fun a=>forceN (Nat.succ b) fun c=>AV.ckOne (.str 6 110369476601972) (AV.ckOne (.sl b 0 1 (.known 1)) (storeK 4 a (.ptr d 0) (.agg [.str 6 110369476601972,.str 0 0,I 0,.sl b 0 1 (.known 1)]) fun _ a=>loadNK 4 a (.ptr d 0) fun b=>e b a c))) (a 225 [b,.str 3 7959156] f h fun c d e=>cB c false (a 225 [b,.str 5 435727982962] d e fun c d e=>cB c false (a 225 [b,.str 6 111546465216611] d e fun a b c=>cB a false (g [] b c)))))
theorem h314:HO 314 s314:=hO 1 (T2 L0 (T2 (.one [] (T2 L0 (T2 (T2 L0 (T2 L0 (T2 L0 L0))) (T2 L0 (T2 .stop (T2 L0 (T2 .stop (T2 L0 (T2 .stop L0))))))))) (T2 L0 (T2 (T2 L0 (T2 (T2 L0 (T2 L0 L0)) L0)) (T2 (T2 L0 (T2 .stop L0)) (T2 L0 L0)))))) Tryz.func314 Tryz.call314 fun N F G l H n k=>by kernel_rfl
def s315_0:KQ:=fun c=>pickK b fT c fun b=>cB b (k (I 0) H n) (nilK a (faddrK 0 a fun b=>loadK H b fun b=>nilK a (faddrK 1 a fun a=>loadK H a fun a=>iaddrK 3 b a fun a=>faddrK 0 a fun a=>loadK H a fun a=>k a H n)))
def s315_1:KQ:=fun d=>jQn c (s315_0 H k n a c) (geqI b d)
def s315_2:KQ:=fun d=>jQn c (s315_1 H k n a b c) fun a=>mQ a (lenSl d)
def s315_3:KQ:=fun d=>jQn c (s315_2 H k n a b c) (loadK H d)
def s315_4:KQ:=fun d=>jQn c (s315_3 H k n a b c) (faddrK 0 d)
def s315_5:KQ:=fun d=>jQn c (s315_4 H k n a b c) fun a=>nilK d (a d)
def s315_6:KQ:=fun c=>jQn b (s315_5 H k n a c b) fun b=>b a
def s315_7:KQ:=fun c=>jQn b (s315_6 H k n a b) (loadK H c)
def s315_8:KQ:=fun c=>jQn b (s315_7 H k n a b) (faddrK 1 c)
def s315_9:KQ:=fun c=>jQn b (s315_8 H k n a b) fun a=>nilK c (a c)
def s315(_:Nat):Hand:=fun _ _ a b c d=>arg1 a fun a e=>arg0 e (nilK a (faddrK 2 a fun e=>loadK b e fun e=>jQn e (s315_9 b d c a e) fun b=>b a))
theorem h315:HO 315 s315:=hO 1 (T2 L0 (T2 (T2 L0 (T2 (T2 L0 L0) L0)) (T2 L0 L0))) Tryz.func315 Tryz.call315 fun N F G l H n k=>by kernel_rfl
def s316_0:KR:=fun i j l=>AV.ckOne e (AV.ckOne g (AV.ckOne i (forceN (Nat.add n 1) fun m=>newK [.str 0 0,.nils,.str 0 0,I 0,.nils,.nils] j m fun o=>at_ o m fun o=>hput j m o fun o=>storeK 6 o (.ptr m 0) (.agg [e,i,g,I 0,.nils,.nils]) fun _ i=>loadK j d fun d=>ifB (sameF 8 d e) (loadK j f fun d=>ifB (sameF 8 d g) (at_ j m fun d=>Blk.ckDead d (faddrK 0 h fun d=>loadK i d fun d=>strB .eql d (.str 4 1819042147) fun d=>cB d false (loadNK 6 i (.ptr m 0) fun d=>F 139 [a,d] i l fun d e f=>F 147 [a,b,c,d] e f k)))))))
def s316(_:Nat):Hand:=fun a _ b c d e=>arg1 b fun b f=>arg1 f fun f g=>arg1 g fun g h=>arg0 h (boxE f c d fun c f=>forceN (Nat.succ d) fun d=>faddrK 3 c fun h=>loadK f h fun h=>a 144 [b,h] f d fun d f h=>extK 0 d fun i=>extK 1 d fun d=>a 145 [b,d] f h fun f h j=>forceN (Nat.add j 2) fun l=>faddrK 0 c fun m=>loadK h m fun o=>faddrK 1 c fun p=>loadK h p fun q=>forceN (Nat.add j 0) fun r=>AV.ckOne g (newK [g] h r fun g=>at_ g r fun g=>hput h r g fun g=>mR (s316_0 a e j b d f m o p q c) (appK 1 g l (.sl r 0 1 (.known 1)) i)))
theorem h316:HO 316 s316:=hO 3 (T2 L0 (T2 L0 (T2 L0 (T2 L0 (T2 (T2 L0 (T2 .stop L0)) (T2 L0 (T2 L0 L0))))))) Tryz.func316 Tryz.call316 fun N F G l H n k=>by kernel_rfl
def s321(_:Nat):Hand:=fun a _ b c d e=>arg1 b fun b f=>arg1 f fun f g=>arg1 g fun g h=>arg0 h (a 323 [b,f] c d fun c d h=>a 323 [b,g] d h fun d h i=>eqB .neq c d fun c=>cB c (a 323 [b,g] h i fun a c d=>cB a false (nilK b (faddrK 2 b fun a=>loadK c a fun a=>iaddrK 1 a f fun a=>storeK 1 c a g fun _ a=>e f a d))) false)
theorem h321:HO 321 s321:=hO 3 (T2 L0 (T2 (T2 L0 (T2 (T2 L0 (T2 .stop L0)) .stop)) (T2 L0 (T2 L0 L0)))) Tryz.func321 Tryz.call321 fun N F G l H n k=>by kernel_rfl
def s322(_:Nat):Hand:=fun a _ b c d e=>arg1 b fun b f=>arg1 f fun f g=>arg0 g (loadK c f fun f=>a 323 [f,b] c d fun a b c=>notB a fun a=>e a b c)
theorem h322:HO 322 s322:=hO 2 (T2 L0 (T2 L0 L0)) Tryz.func322 Tryz.call322 fun N F G l H n k=>by kernel_rfl
def s323(_:Nat):Hand:=fun _ _ a b c d=>arg1 a fun a e=>arg1 e fun e f=>arg0 f (nilK a (faddrK 1 a fun a=>loadK b a fun a=>iaddrK 4 a e fun a=>faddrK 0 a fun a=>loadK b a fun a=>eqlI a (I 0) fun a=>d a b c))
theorem h323:HO 323 s323:=hO 2 (T2 L0 (T2 L0 L0)) Tryz.func323 Tryz.call323 fun N F G l H n k=>by kernel_rfl
def s324(_:Nat):Hand:=fun a _ b c d e=>arg1 b fun b f=>arg1 f fun f g=>arg1 g fun g h=>arg0 h (loadK c b fun b=>nilK b (faddrK 0 b fun b=>loadK c b fun b=>loadK c f fun f=>loadK c g fun g=>a 69 [b,f,g] c d fun a b c=>extK 0 a fun d=>extK 1 a fun a=>AV.ckOk d (AV.ckOk a (e (.tup [d,a]) b c))))
theorem h324:HO 324 s324:=hO 3 (T2 L0 (T2 L0 L0)) Tryz.func324 Tryz.call324 fun N F G l H n k=>by kernel_rfl
def s327(_:Nat):Hand:=fun _ _ a b c d=>arg1 a fun a e=>arg0 e (neqI a a fun a=>d a b c)
theorem h327:HO 327 s327:=hO 1 (T2 L0 (T2 L0 L0)) Tryz.func327 Tryz.call327 fun N F G l H n k=>by kernel_rfl
def s328_0:KJ:=fun _ a b=>k (.int .i64 (.negSucc 0)) a b
def s328_1:KJ:=fun _ b c=>addI a (I 1) fun a=>j [a] b c
def s328_2:KJ→KJ:=fun d e f g=>arg1 e fun e _=>lssI e c fun c=>cB c (mJ (s328_1 d e) fun c=>iaddrK 4 a e fun a=>loadNK 4 f a fun a=>callV F G b [a] f g fun a b d=>cB a false (c [] b d)) (j [] f g)
def s328_3:KQ:=fun c=>mJ (s328_0 k) fun d=>iterN n (s328_2 F G d a b c) [I 0] H m
def s328(a:Nat):Hand:=fun b c d e f g=>arg1 d fun d h=>arg1 h fun h i=>arg0 i (mQ (s328_3 b c e g a f d h) (lenSl d))
theorem h328:HO 328 s328:=hO 2 (T2 L0 (T2 (T2 L0 (.one [] (.one [8] (T2 L0 (T2 (T2 L0 L0) (T2 (.one [] (T2 L0 (T2 L0 (T2 .stop L0)))) L0)))))) (T2 L0 L0))) Tryz.func328 Tryz.call328 fun N F G l H n k=>by kernel_rfl
def s330(_:Nat):Hand:=fun a _ b c d e=>arg1 b fun b f=>arg1 f fun f g=>arg0 g (boxE b c d fun b c=>forceN (Nat.succ d) fun d=>mkmapE c d fun c g=>forceN (Nat.succ d) fun d=>loadNK 4 g b fun b=>a 61 [b,f,c] g d fun _ a b=>mQ (fun c=>e c a b) fun b=>AV.ckNum f (lookM [] .nils false c f a b))
theorem h330:HO 330 s330:=hO 2 (T2 L0 (T2 L0 (T2 L0 (T2 L0 L0)))) Tryz.func330 Tryz.call330 fun N F G l H n k=>by kernel_rfl
def s335(_:Nat):Hand:=fun a _ b c d e=>arg1 b fun b f=>arg1 f fun f g=>arg1 g fun g h=>arg1 h fun h i=>arg1 i fun i j=>arg0 j (a 356 [b,f,g,i] c d fun c d f=>extK 0 c fun g=>extK 1 c fun c=>a 356 [b,c,h,i] d f fun c d f=>extK 0 c fun h=>extK 1 c fun _=>a 356 [b,g,h,i] d f fun a b c=>extK 0 a fun _=>extK 1 a fun a=>e a b c)
theorem h335:HO 335 s335:=hO 5 (T2 L0 (T2 L0 (T2 L0 (T2 L0 (T2 L0 L0))))) Tryz.func335 Tryz.call335 fun N F G l H n k=>by kernel_rfl
def s336_0:KJ:=fun b c d=>arg1 b fun b e=>arg1 e fun e f=>arg1 f fun f g=>arg1 g fun g h=>arg1 h fun h i=>arg1 i fun i l=>arg1 l fun l m=>arg1 m fun m o=>arg1 o fun o p=>arg1 p fun p q=>arg1 q fun q r=>arg1 r fun r s=>arg1 s fun s t=>arg1 t fun t u=>arg1 u fun u v=>arg1 v fun v _=>addI a (I 1) fun a=>j [a,b,e,f,g,h,i,l,m,o,p,q,r,s,t,u,v] c d
def s336_1:KR:=fun l m q=>pickK f fT l fun f=>cB f false (j [a,b,c,d,e,g,h,i,o,p,r,s,t,u,v,l] m q)
def s336_2:KR:=fun l m q=>jRn f m q (s336_1 j a b c d e f g h i o p r s t u l) fun a=>pickK p l fF fun b=>a b m q
def s336_3:KR:=fun l m q=>jR p m q (s336_2 j a b c d e f g h i o p r s t l) fun a=>neqI l (I 1) fun b=>a b m q
def s336_4:KR:=fun l m q=>jR p m q (s336_3 j a b c d e f g h i o p r s l) fun a=>loadK m l fun b=>a b m q
def s336_5:KR:=fun l m q=>jR p m q (s336_4 j a b c d e f g h i o p r l) fun a=>iaddrK 1 r l fun b=>a b m q
def s336_6:KR:=fun l m q=>jR r m q (s336_5 j b c d e f g h i o p r l) fun b=>b a m q
def s336_7:KR:=fun l m q=>jR l m q (s336_6 j a b c d e f g h i o p l) fun a=>a r m q
def s336_8:KR:=fun l m q=>jRn g m q (s336_7 j a b c d e f g h i o l p) fun a=>a l m q
def s336_9:KR:=fun l m p=>jRn g m p (s336_8 j a b c d e f g h i l o) fun a=>geqI h l fun b=>a b m p
def s336_10:KR:=fun l m o=>jRn g m o (s336_9 j a b c d e f g h l i) fun a=>loadK m l fun b=>a b m o
def s336_11:KR:=fun l m o=>jRn h m o (s336_10 j a b c d f g h l i) fun a=>faddrK 2 e fun b=>a b m o
def s336_12:KR:=fun i l m=>pickK b i fF fun b=>jRn b l m (s336_11 j a c d e f g i b h) fun b=>b a l m
def s336_13:KR:=fun h i l=>jR b i l (s336_12 j a b c d e f h g) fun a=>neqI h (I 0) fun b=>a b i l
def s336_14:KR:=fun g h i=>jR b h i (s336_13 j a b c d g e f) fun a=>loadK h g fun b=>a b h i
def s336_15:KR:=fun f g h=>jR b g h (s336_14 j a b c f d e) fun a=>iaddrK 1 c f fun b=>a b g h
def s336_16:KR:=fun e f g=>jR b f g (s336_15 j a b e c d) fun b=>b a f g
def s336_17:KQ:=fun d=>lssI a d fun d=>cB d (mJ (s336_0 J a) fun d=>faddrK 2 b fun e=>loadK H e fun e=>lssI a e fun e=>jR e H n (s336_16 d a e b c) fun a=>a c H n) (j [] H n)
def s336_18:KJ→KJ:=fun c d e f=>arg1 d fun d g=>arg1 g fun _ g=>arg1 g fun _ g=>arg1 g fun _ g=>arg1 g fun _ g=>arg1 g fun _ g=>arg1 g fun _ g=>arg1 g fun _ g=>arg1 g fun _ g=>arg1 g fun _ g=>arg1 g fun _ g=>arg1 g fun _ g=>arg1 g fun _ g=>arg1 g fun _ g=>arg1 g fun _ g=>arg1 g fun _ g=>arg1 g fun _ _=>mQ (s336_17 j c e f d a b) (lenSl b)
def s336_19:KJ:=fun _ c d=>mJ (fun _ a b=>k fT a b) fun e=>iterN n (s336_18 e a b) [I 0,.bad,.bad,.bad,.bad,.bad,.bad,.bad,.bad,.bad,.bad,.bad,.bad,.bad,.bad,.bad,.bad] c d
def s336_20:KJ:=fun _ b c=>addI a (I 1) fun a=>j [a] b c
def s336_21:KJ:=fun _ b c=>addI a (I 1) fun a=>j [a] b c
def s336_22:KQ:=fun d=>lssI b d fun d=>cB d (mJ (s336_21 J b) fun d=>iaddrK 1 a b fun a=>loadK H a fun a=>iaddrK 1 c a fun b=>loadK H b fun b=>addI b (I 1) fun b=>iaddrK 1 c a fun a=>storeK 1 H a b fun _ a=>d [] a n) (j [] H n)
def s336_23:KJ→KJ:=fun c d e f=>arg1 d fun d _=>mQ (s336_22 j c e f a d b) (lenSl a)
def s336_24:KQ:=fun f=>F 358 [c,d,f] H m fun c d f=>notB c fun c=>cB c false (faddrK 0 a fun a=>loadK d a fun a=>iaddrK 6 a b fun a=>loadNK 6 d a fun a=>F 148 [a] d f fun a b c=>mJ (fun _ a b=>j [] a b) fun d=>iterN n (s336_23 d a e) [I 0] b c)
def s336_25:KQ:=fun e=>faddrK 0 a fun f=>loadK H f fun f=>mQ (s336_24 F j H n m a b c e d) (lenSl f)
def s336_26:KQ:=fun d=>lssI b d fun d=>cB d (mJ (s336_20 J b) fun d=>faddrK 0 a fun e=>loadK H e fun e=>iaddrK 6 e b fun e=>loadNK 6 H e fun e=>faddrK 1 a fun f=>loadK H f fun f=>mQ (s336_25 F d H n m a b e c) (lenSl f)) (j [] H m)
def s336_27:KJ→KJ:=fun c d e f=>arg1 d fun d _=>faddrK 0 a fun g=>loadK e g fun g=>mQ (s336_26 F j c e n f a d b) (lenSl g)
def s336_28:KQ:=fun b=>mkslK [I 0] b b H m fun b c=>forceN (Nat.succ m) fun d=>mJ (s336_19 k n a b) fun e=>iterN n (s336_27 F e n a b) [I 0] c d
def s336_29:KR:=fun c d e=>pickK b fT c fun b=>cB b false (faddrK 1 a fun b=>loadK d b fun b=>mQ (s336_28 F d k n e a) (lenSl b))
def s336_30:KR:=fun c d e=>jRn b d e (s336_29 F k n a b) fun a=>notB c fun b=>a b d e
def s336_31:KR:=fun c d e=>jRn b d e (s336_30 F k n a b) (F 357 [c] d e)
def s336_32:KR:=fun c d e=>pickK b fT c fun b=>jRn b d e (s336_31 F k n a b) fun b=>loadNK 4 d a fun a=>b a d e
def s336_33:KR:=fun d e f=>jRn b e f (s336_32 F k n a b) fun a=>geqI c d fun b=>a b e f
def s336_34:KR:=fun d e f=>jRn b e f (s336_33 F k n a b c) fun a=>mQ (fun b=>a b e f) (lenSl d)
def s336_35:KR:=fun d e f=>jRn b e f (s336_34 F k n a b c) fun a=>loadK e d fun b=>a b e f
def s336_36:KR:=fun c d e=>jRn b d e (s336_35 F k n a b c) fun b=>faddrK 0 a fun a=>b a d e
def s336_37:KR:=fun c d e=>jRn b d e (s336_36 F k n a b) fun a=>loadK d c fun b=>a b d e
def s336_38:KR:=fun c d e=>pickK b fT c fun b=>jRn b d e (s336_37 F k n a b) fun b=>faddrK 3 a fun a=>b a d e
def s336_39:KR:=fun c d e=>jRn b d e (s336_38 F k n a b) fun a=>lssI c (I 0) fun b=>a b d e
def s336_40:KR:=fun c d e=>jRn b d e (s336_39 F k n a b) fun a=>loadK d c fun b=>a b d e
def s336_41:KR:=fun c d e=>pickK b fT c fun b=>jRn b d e (s336_40 F k n a b) fun b=>faddrK 3 a fun a=>b a d e
def s336_42:KR:=fun c d e=>jRn b d e (s336_41 F k n a b) fun a=>gtrI c (I 800) fun b=>a b d e
def s336_43:KR:=fun c d e=>jRn b d e (s336_42 F k n a b) fun a=>mQ (fun b=>a b d e) (lenSl c)
def s336_44:KR:=fun c d e=>jRn b d e (s336_43 F k n a b) fun a=>loadK d c fun b=>a b d e
def s336_45:KR:=fun c d e=>pickK b fT c fun b=>jRn b d e (s336_44 F k n a b) fun b=>faddrK 1 a fun a=>b a d e
def s336_46:KR:=fun c d e=>jRn b d e (s336_45 F k n a b) fun a=>gtrI c (I 1200) fun b=>a b d e
def s336_47:KR:=fun c d e=>jRn b d e (s336_46 F k n a b) fun a=>mQ (fun b=>a b d e) (lenSl c)
def s336_48:KR:=fun c d e=>jRn b d e (s336_47 F k n a b) fun a=>loadK d c fun b=>a b d e
def s336_49:KQ:=fun b=>lssI b (I 1) fun b=>jRn b H m (s336_48 F k n a b) fun b=>faddrK 0 a fun a=>b a H m
def s336(a:Nat):Hand:=fun b _ c d e f=>arg1 c fun c g=>arg0 g (boxE c d e fun c d=>forceN (Nat.succ e) fun e=>faddrK 0 c fun g=>loadK d g fun g=>mQ (s336_49 b d f a e c) (lenSl g))
theorem h336:HO 336 s336:=hO 1 (T2 L0 (T2 (T2 L0 (T2 .stop L0)) (T2 L0 (T2 (T2 L0 (.one [] (.one [4] (T2 (T2 L0 (T2 L0 L0)) (T2 (.one [] (T2 (T2 L0 (T2 .stop L0)) (T2 L0 (T2 L0 (.one [] (.one [6] (T2 (T2 L0 (T2 L0 L0)) (T2 (.one [] L0) L0)))))))) L0))))) (T2 (T2 L0 (.one [] (.one [7,98,99,100,101,102,105,106,107,108,109,110,111,112,113,114,115] (T2 (T2 L0 (T2 L0 L0)) (T2 (.one [98,99,100,101,102,105,106,107,108,109,110,111,112,113,114,115] (T2 L0 (T2 .stop L0))) L0))))) (T2 L0 L0)))))) Tryz.func336 Tryz.call336 fun N F G l H n k=>by kernel_rfl
def s337_0:KR:=fun c d e=>nilK a (faddrK 1 a fun a=>storeK 1 d a c fun _ a=>AV.ckOk b (AV.ckOk (I 0) (k (.tup [b,I 0]) a e)))
def s337_1:KR:=fun c d e=>nilK a (faddrK 0 a fun f=>storeK 1 d f c fun _ c=>nilK a (faddrK 1 a fun d=>loadK c d fun d=>AV.ckOne b (newK [b] c e fun c=>forceN (Nat.succ e) fun f=>mR (s337_0 k a b) (appK 1 c f d (.sl e 0 1 (.known 1))))))
def s337_2:KJ:=fun _ d e=>forceN (Nat.add e 1) fun f=>nilK a (faddrK 0 a fun g=>loadK d g fun g=>loadNK 4 d b fun b=>forceN (Nat.add e 0) fun e=>Ev.layK 0 4 true b [I 0,I 0,.str 0 0,.nils] fun b=>newK b d e fun b=>at_ b e fun b=>hput d e b fun b=>mR (s337_1 k a c) (appK 4 b f g (.sl e 0 1 (.known 1))))
def s337_3:KR:=fun d e f=>faddrK 3 b fun g=>storeK 1 e g d fun _ d=>mJ (s337_2 k a b c) fun a=>faddrK 0 b fun e=>loadK d e fun e=>eqlI e (I 0) fun e=>cB e (faddrK 1 b fun b=>storeK 1 d b c fun _ b=>a [] b f) (a [] d f)
def s337_4:KQ:=fun c=>newK [] H n fun d=>forceN (Nat.succ n) fun e=>faddrK 3 b fun f=>loadK d f fun f=>mR (s337_3 k a b c) (appK 1 d e (.sl n 0 0 (.known 0)) f)
def s337_5:KQ:=fun c=>geqI c (I 8000) fun c=>cB c false (nilK a (faddrK 0 a fun c=>loadK H c fun c=>mQ (s337_4 H k n a b) (lenSl c)))
def s337_6:KQ:=fun d=>pickK b d fF fun b=>cB b false (nilK a (faddrK 0 a fun b=>loadK H b fun b=>mQ (s337_5 H k n a c) (lenSl b)))
def s337_7:KR:=fun d e f=>jQ b (s337_6 e k f a b c) (notB d)
def s337_8:KQ:=fun e=>jR b H n (s337_7 k a b d) (F 360 [c,e] H n)
def s337_9:KQ:=fun e=>jQ b (s337_8 F H k n a b c d) fun a=>mQ a (lenSl e)
def s337_10:KQ:=fun e=>jQ b (s337_9 F H k n a b c d) (loadK H e)
def s337_11:KQ:=fun e=>jQ b (s337_10 F H k n a b c d) (faddrK 0 e)
def s337_12:KQ:=fun e=>jQ b (s337_11 F H k n a b c d) fun a=>nilK e (a e)
def s337_13:KQ:=fun d=>jQ b (s337_12 F H k n a b d c) fun b=>b a
def s337(_:Nat):Hand:=fun a _ b c d e=>arg1 b fun b f=>arg1 f fun f g=>arg0 g (boxE f c d fun c f=>forceN (Nat.succ d) fun d=>a 359 [b] f d fun d f g=>notB d fun d=>cB d false (faddrK 0 c fun d=>loadK f d fun d=>neqI d (I 0) fun d=>jQ d (s337_13 a f e g b d c) (loadNK 4 f c)))
theorem h337:HO 337 s337:=hO 2 (T2 L0 (T2 (T2 L0 (T2 .stop L0)) (T2 (T2 L0 (T2 .stop L0)) (T2 (T2 L0 (T2 .stop L0)) (T2 L0 (T2 L0 (.join [] (T2 L0 (T2 L0 L0)) (T2 L0 (T2 L0 (T2 L0 L0)))))))))) Tryz.func337 Tryz.call337 fun N F G l H n k=>by kernel_rfl
def s338(_:Nat):Hand:=fun a _ b c d e=>arg1 b fun b f=>arg1 f fun f g=>arg1 g fun g h=>arg0 h (nilK b (faddrK 0 b fun b=>loadK c b fun b=>a 361 [b,f,g] c d fun a b c=>extK 0 a fun _=>extK 1 a fun a=>neqI a (I 0) fun a=>cB a false (e (.int .i64 (.negSucc 0)) b c)))
theorem h338:HO 338 s338:=hO 3 (T2 L0 (T2 L0 (T2 (T2 L0 (T2 .stop L0)) (T2 L0 L0)))) Tryz.func338 Tryz.call338 fun N F G l H n k=>by kernel_rfl
def s339(_:Nat):Hand:=fun a _ b c d e=>arg1 b fun b f=>arg1 f fun f g=>arg1 g fun g h=>arg1 h fun h i=>arg0 i (boxE g c d fun c g=>forceN (Nat.succ d) fun d=>loadNK 3 g c fun c=>Ev.layK 0 3 true c [I 0,.bool false,.nils] fun c=>newK c g d fun c=>forceN (Nat.succ d) fun g=>a 288 [b,f,.sl d 0 1 (.known 1)] c g fun _ a c=>nilK b (faddrK 9 b fun b=>loadK a b fun b=>AV.ckOne h (newK [h] a c fun a=>forceN (Nat.succ c) fun d=>iaddrK 4 b f fun b=>faddrK 1 b fun b=>storeK 1 a b (.sl c 0 1 (.known 1)) fun _ a=>e (.tup []) a d)))
theorem h339:HO 339 s339:=hO 4 (T2 L0 (T2 L0 L0)) Tryz.func339 Tryz.call339 fun N F G l H n k=>by kernel_rfl
def s340(_:Nat):Hand:=fun a _ b c d e=>arg1 b fun b f=>arg1 f fun f g=>arg0 g (AV.ckOne (I 1) (AV.ckOne f (a 337 [b,.agg [I 1,f,.str 0 0,.nils]] c d fun a b c=>extK 0 a fun d=>extK 1 a fun a=>AV.ckOk d (AV.ckOk a (e (.tup [d,a]) b c)))))
theorem h340:HO 340 s340:=hO 2 (T2 L0 (T2 L0 L0)) Tryz.func340 Tryz.call340 fun N F G l H n k=>by kernel_rfl
def s341(_:Nat):Hand:=fun a _ b c d e=>arg1 b fun b f=>arg1 f fun f g=>arg1 g fun g h=>arg0 h (AV.ckOne (I 3) (AV.ckOne f (AV.ckOne g (a 337 [b,.agg [I 3,I 0,f,g]] c d fun a b c=>extK 0 a fun d=>extK 1 a fun a=>AV.ckOk d (AV.ckOk a (e (.tup [d,a]) b c))))))
theorem h341:HO 341 s341:=hO 3 (T2 L0 (T2 L0 L0)) Tryz.func341 Tryz.call341 fun N F G l H n k=>by kernel_rfl
def s344(_:Nat):Hand:=fun a _ b c d e=>arg1 b fun b f=>arg1 f fun f g=>arg0 g (newK [I 0,I 0,.str 0 0,.nils] c d fun c=>forceN (Nat.succ d) fun g=>nilK b (faddrK 0 b fun b=>loadK c b fun b=>a 362 [b,f] c g fun a b c=>extK 0 a fun f=>extK 1 a fun _=>newK [I 0,I 0,.str 0 0,.nils] b c fun a=>forceN (Nat.succ c) fun b=>storeK 4 a (.ptr c 0) f fun _ a=>loadNK 4 a (.ptr c 0) fun c=>storeK 4 a (.ptr d 0) c fun _ a=>loadNK 4 a (.ptr d 0) fun c=>e c a b))
theorem h344:HO 344 s344:=hO 2 (T2 L0 (T2 L0 (T2 L0 L0))) Tryz.func344 Tryz.call344 fun N F G l H n k=>by kernel_rfl
def s347_0:KJ→KJ:=fun _ d e f=>arg1 d fun d _=>AV.ckOne (I 1) (AV.ckOne (I 0) (AV.ckOne (I 0) (AV.ckOne (I 1) (AV.ckOne (I 0) (AV.ckOne (I 1) (AV.ckOne (I 0) (AV.ckOne (I 1) (AV.ckOne (I 1) (AV.ckOne (I 2) (newK [I 1,I 0,I 0,I 1,I 0,I 1,I 0,I 1,I 1,I 2] e f fun e=>forceN (Nat.succ f) fun g=>iaddrK 1 (.sl f 0 10 (.known 10)) b fun b=>loadK e b fun b=>lssI d b fun b=>cB b (mJ (fun _ _ _=>false) fun _=>iaddrK 1 c d fun b=>loadK e b fun b=>F 286 [a,b] e g fun a b e=>cB a (iaddrK 1 c d fun a=>loadK b a fun a=>AV.ckOk a (AV.ckOk (.int .i64 (.negSucc 0)) (k (.tup [a,.int .i64 (.negSucc 0)]) b e))) false) false))))))))))
def s347_1:KQ:=fun d=>AV.ckOne (I 1) (AV.ckOne (I 2) (AV.ckOne (I 2) (AV.ckOne (I 3) (AV.ckOne (I 2) (AV.ckOne (I 2) (AV.ckOne (I 1) (AV.ckOne (I 2) (AV.ckOne (I 2) (AV.ckOne (I 3) (newK [I 1,I 2,I 2,I 3,I 2,I 2,I 1,I 2,I 2,I 3] H m fun e=>forceN (Nat.succ m) fun f=>iaddrK 1 (.sl m 0 10 (.known 10)) b fun g=>loadK e g fun g=>neqI d g fun d=>cB d false (mJ (fun _ _ _=>false) fun _=>iterN n (s347_0 F k a b c) [I 0] e f)))))))))))
def s347(a:Nat):Hand:=fun b _ c d e f=>arg1 c fun c g=>arg1 g fun g h=>arg1 h fun h i=>arg0 i (mQ (s347_1 b d f a e c g h) (lenSl h))
theorem h347:HO 347 s347:=hO 3 (T2 L0 (T2 (T2 L0 (T2 .stop L0)) (T2 (T2 L0 (.one [] (.one [8] (T2 (T2 L0 (T2 L0 .stop)) (T2 (.one [] (T2 L0 (T2 (T2 L0 L0) .stop))) .stop))))) .stop))) Tryz.func347 Tryz.call347 fun N F G l H n k=>by kernel_rfl
def s348_0:KJ:=fun a b c=>arg1 a fun a _=>k a b c
def s348_1:KJ:=fun b c d=>arg1 b fun b _=>addI a (I 1) fun a=>j [b,a] c d
def s348_2:KQ:=fun d=>lssI c d fun d=>cB d (mJ (s348_1 j c) fun d=>mulI (I 10) b fun b=>indexStrK a c fun a=>subI a (.int .u8 (.ofNat 48)) fun a=>convI .i64 a fun a=>addI b a fun a=>d [a] H n) (J [b] H n)
def s348_3:KJ→KJ:=fun b c d e=>arg1 c fun c f=>arg1 f fun f _=>mQ (s348_2 b j d e a c f) (lenStr a)
def s348(a:Nat):Hand:=fun _ _ b c d e=>arg1 b fun b f=>arg0 f (mJ (s348_0 e) fun e=>iterN a (s348_3 e b) [I 0,I 0] c d)
theorem h348:HO 348 s348:=hO 1 (T2 L0 (T2 L0 (T2 (T2 L0 (.one [3] (.one [3,4] (T2 (T2 L0 (T2 L0 L0)) (T2 (.one [3] L0) L0))))) (T2 L0 L0)))) Tryz.func348 Tryz.call348 fun N F G l H n k=>by kernel_rfl
def s349(_:Nat):Hand:=fun _ _ a b c d=>arg0 a (AV.ckOne (.str 4 1885956979) (AV.ckOne (.str 5 465490374508) (AV.ckOne (.str 2 28265) (AV.ckOne (.str 3 6581861) (AV.ckOne (.str 2 26217) (AV.ckOne (.str 4 1852139636) (AV.ckOne (.str 4 1702063205) (AV.ckOne (.str 4 1702060387) (AV.ckOne (.str 2 26223) (AV.ckOne (.str 4 1668248176) (AV.ckOne (.str 3 7239014) (AV.ckOne (.str 6 110369476601972) (AV.ckOne (.str 3 7959156) (AV.ckOne (.str 5 448345170275) (AV.ckOne (.str 5 435727982962) (AV.ckOne (.str 4 2038063468) (AV.ckOne (.str 6 111546465216611) (newK [.str 4 1885956979,.str 5 465490374508,.str 2 28265,.str 3 6581861,.str 2 26217,.str 4 1852139636,.str 4 1702063205,.str 4 1702060387,.str 2 26223,.str 4 1668248176,.str 3 7239014,.str 6 110369476601972,.str 3 7959156,.str 5 448345170275,.str 5 435727982962,.str 4 2038063468,.str 6 111546465216611] b c fun a=>forceN (Nat.succ c) (d (.sl c 0 17 (.known 17)) a)))))))))))))))))))
theorem h349:HO 349 s349:=hO 0 (T2 L0 (T2 L0 L0)) Tryz.func349 Tryz.call349 fun N F G l H n k=>by kernel_rfl
def s350_0:KJ:=fun _ a b=>loadNK 4 a (.ptr m 0) fun c=>storeK 4 a (.ptr n 0) c fun _ a=>loadNK 4 a (.ptr n 0) fun c=>k c a b
def s350_1:KJ→KJ:=fun _ _ b c=>F 225 [a,.str 1 42] b c fun a b c=>cB a false (j [] b c)
def s350(a:Nat):Hand:=fun b _ c d e f=>arg1 c fun c g=>arg0 g (newK [.str 0 0,.str 0 0,I 0,.nils] d e fun d=>forceN (Nat.succ e) fun g=>b 368 [c] d g fun d g h=>newK [.str 0 0,.str 0 0,I 0,.nils] g h fun g=>forceN (Nat.succ h) fun i=>storeK 4 g (.ptr h 0) d fun _ d=>mJ (s350_0 f e h) fun e=>iterN a (s350_1 b e c) [] d i)
theorem h350:HO 350 s350:=hO 1 (T2 L0 (T2 L0 (T2 (.one [] (.one [] (T2 (T2 L0 (T2 .stop L0)) .stop))) (T2 L0 L0)))) Tryz.func350 Tryz.call350 fun N F G l H n k=>by kernel_rfl
def s356(_:Nat):Hand:=fun a _ b c d e=>arg1 b fun b f=>arg1 f fun f g=>arg1 g fun g h=>arg1 h fun h i=>arg0 i (iaddrK 1 b g fun i=>loadK c i fun i=>iaddrK 1 b f fun b=>loadK c b fun b=>a 265 [i,b] c d fun a b c=>cB a (nilK h (loadK b h fun a=>addI a (I 1) fun a=>nilK h (storeK 1 b h a fun _ a=>AV.ckOk g (AV.ckOk f (e (.tup [g,f]) a c))))) (AV.ckOk f (AV.ckOk g (e (.tup [f,g]) b c))))
theorem h356:HO 356 s356:=hO 4 (T2 L0 (T2 (T2 L0 (T2 (T2 L0 (T2 L0 L0)) L0)) (T2 L0 L0))) Tryz.func356 Tryz.call356 fun N F G l H n k=>by kernel_rfl
def s357_0:KJ:=fun b c d=>arg1 b fun b e=>arg1 e fun e f=>arg1 f fun f g=>arg1 g fun g h=>arg1 h fun h i=>arg1 i fun i l=>arg1 l fun l m=>arg1 m fun m o=>arg1 o fun o p=>arg1 p fun p q=>arg1 q fun q r=>arg1 r fun r s=>arg1 s fun s t=>arg1 t fun t u=>arg1 u fun u v=>arg1 v fun v w=>arg1 w fun w x=>arg1 x fun x y=>arg1 y fun y z=>arg1 z fun z A=>arg1 A fun A B=>arg1 B fun B C=>arg1 C fun C D=>arg1 D fun D E=>arg1 E fun E G=>arg1 G fun G J=>arg1 J fun J L=>arg1 L fun L M=>arg1 M fun M O=>arg1 O fun O P=>arg1 P fun P Q=>arg1 Q fun Q R=>arg1 R fun R S=>arg1 S fun S _=>addI a (I 1) fun a=>j [a,b,e,f,g,h,i,l,m,o,p,q,r,s,t,u,v,w,x,y,z,A,B,C,D,E,G,J,L,M,O,P,Q,R,S] c d
def s357_1:KJ:=fun l m q=>arg1 l fun l G=>arg1 G fun G J=>arg1 J fun J _=>j [a,b,c,d,e,f,g,h,i,o,p,r,s,t,u,v,w,x,y,z,A,B,C,D,E,L,M,O,P,Q,R,l,G,J] m q
def s357_2:KJ:=fun _ e f=>addI a (I 1) fun a=>j [a,b,c,d] e f
def s357_3:KR:=fun g h i=>pickK c g fF fun c=>cB c (mJ (s357_2 J b d e g) fun c=>faddrK 1 a fun d=>loadK h d fun d=>iaddrK 1 d f fun d=>loadK h d fun d=>faddrK 1 a fun a=>loadK h a fun a=>iaddrK 1 a b fun a=>loadK h a fun a=>strB .eql d a fun a=>cB a false (c [] h i)) (j [d,e,g] h i)
def s357_4:KR:=fun f g h=>jR c g h (s357_3 j J a b c d f e) fun a=>lssI d f fun b=>a b g h
def s357_5:KR:=fun e f g=>jR c f g (s357_4 j J a b c e d) fun a=>a d f g
def s357_6:KJ→KJ:=fun c d e f=>arg1 d fun d g=>arg1 g fun _ g=>arg1 g fun _ g=>arg1 g fun _ _=>faddrK 2 a fun g=>loadK e g fun g=>lssI b g fun g=>jR g e f (s357_5 j c a d g b) fun a=>a d e f
def s357_7:KQ:=fun l=>pickK u fT l fun q=>cB q false (mJ (s357_1 j e f g h i o p r s t v w x y z A B C D E L M O P Q R S T U V l) fun e=>iterN n (s357_6 e d W) [I 0,a,b,c] H m)
def s357_8:KQ:=fun l=>jQn u (s357_7 j H n m a b c d e f g h i o p r s t u v w x y z A B C D E L M O P Q R S T U l V) (pickK C l fF)
def s357_9:KQ:=fun l=>jQ C (s357_8 j H n m a b c d e f g h i o p r s t u v w x y z A B C D E L M O P Q R S T l U) (pickK O fT l)
def s357_10:KQ:=fun l=>jQn O (s357_9 j H n m a b c d e f g h i o p r s t u v w x y z A B C D E L M O P Q R S l T) (strB .neq l (.str 0 0))
def s357_11:KQ:=fun l=>jQn O (s357_10 j H n m a b c d e f g h i o p r s t u v w x y z A B C D E L M O P Q R l S) (loadK H l)
def s357_12:KQ:=fun l=>jQn O (s357_11 j H n m a b c d e f g h i o p r s t u v w x y z A B C D E L M O P Q l R) (iaddrK 1 Q l)
def s357_13:KQ:=fun l=>jQn O (s357_12 j H n m a b c d e f g h i o p r s t u v w x y z A B C D E L M O P l Q) fun a=>a Q
def s357_14:KQ:=fun l=>jQn O (s357_13 j H n m a b c d e f g h i o p r s t u v w x y z A B C D E L M O l P) (loadK H l)
def s357_15:KQ:=fun l=>jQn l (s357_14 j H n m a b c d e f g h i o p r s t u v w x y z A B C D E L M l O) (faddrK 1 d)
def s357_16:KQ:=fun l=>jQ C (s357_15 j H n m a b c d e f g h i o p r s t u v w x y z A B C D E L l M) fun a=>a l
def s357_17:KQ:=fun l=>jQ C (s357_16 j H n m a b c d e f g h i o p r s t u v w x y z A B C D E l L) (lssI D l)
def s357_18:KQ:=fun l=>jQ C (s357_17 j H n m a b c d e f g h i o p r s t u v w x y z A B C D l E) (loadK H l)
def s357_19:KQ:=fun l=>jQ C (s357_18 j H n m a b c d e f g h i o p r s t u v w x y z A B C l D) (faddrK 2 d)
def s357_20:KQ:=fun l=>jQ l (s357_19 j H n m a b c d e f g h i o p r s t u v w x y z A B l C) fun a=>a C
def s357_21:KQ:=fun l=>jQn u (s357_20 j H n m a b c d e f g h i o p r s t u v w x y z A l B) fun a=>a l
def s357_22:KR:=fun l m q=>jQn u (s357_21 j m n q a b c d e f g h i o p r s t u v w x y z l A) (notB l)
def s357_23:KQ:=fun l=>jRn u H m (s357_22 j n a b c d e f g h i o p r s t u v w x y l z) (F 50 [l] H m)
def s357_24:KQ:=fun l=>jQn u (s357_23 F j H n m a b c d e f g h i o p r s t u v w x l y) (loadK H l)
def s357_25:KQ:=fun l=>jQn u (s357_24 F j H n m a b c d e f g h i o p r s t u v w l x) (iaddrK 1 w l)
def s357_26:KQ:=fun l=>jQn u (s357_25 F j H n m a b c d e f g h i o p r s t u v l w) fun a=>a w
def s357_27:KQ:=fun l=>jQn u (s357_26 F j H n m a b c d e f g h i o p r s t u l v) (loadK H l)
def s357_28:KQ:=fun l=>pickK e l fF fun e=>jQn e (s357_27 F j H n m a b c d f g h i o p r s t l e u) (faddrK 1 d)
def s357_29:KQ:=fun l=>jQ e (s357_28 F j H n m a b c d e f g h i o p r s l t) (strB .neq o l)
def s357_30:KQ:=fun l=>jQ e (s357_29 F j H n m a b c d e f g h i o p r l s) (loadK H l)
def s357_31:KQ:=fun l=>jQ e (s357_30 F j H n m a b c d e f g h i o p l r) (iaddrK 1 p l)
def s357_32:KQ:=fun l=>jQ e (s357_31 F j H n m a b c d e f g h i o l p) fun a=>a p
def s357_33:KQ:=fun l=>jQ e (s357_32 F j H n m a b c d e f g h i l p) fun a=>a o
def s357_34:KQ:=fun l=>jQ e (s357_33 F j H n m a b c d e f g h l i o) (loadK H l)
def s357_35:KQ:=fun l=>jQ e (s357_34 F j H n m a b c d e f g l h i) (iaddrK 1 g l)
def s357_36:KQ:=fun i=>jQ e (s357_35 F j H n m a b c d e f i g h) fun a=>a h
def s357_37:KQ:=fun h=>jQ e (s357_36 F j H n m a b c d e h f g) (loadK H h)
def s357_38:KQ:=fun g=>lssI f g fun g=>jQ g (s357_37 F j H n m a b c d g e f) (faddrK 1 d)
def s357_39:KQ:=fun g=>lssI f g fun g=>cB g (mJ (s357_0 J f) fun g=>mQ (s357_38 F g H n m a b c d e f) (lenSl e)) (j [] H m)
def s357_40:KJ→KJ:=fun c d e f=>arg1 d fun d g=>arg1 g fun _ g=>arg1 g fun _ g=>arg1 g fun _ g=>arg1 g fun _ g=>arg1 g fun _ g=>arg1 g fun _ g=>arg1 g fun _ g=>arg1 g fun _ g=>arg1 g fun _ g=>arg1 g fun _ g=>arg1 g fun _ g=>arg1 g fun _ g=>arg1 g fun _ g=>arg1 g fun _ g=>arg1 g fun _ g=>arg1 g fun _ g=>arg1 g fun _ g=>arg1 g fun _ g=>arg1 g fun _ g=>arg1 g fun _ g=>arg1 g fun _ g=>arg1 g fun _ g=>arg1 g fun _ g=>arg1 g fun _ g=>arg1 g fun _ g=>arg1 g fun _ g=>arg1 g fun _ g=>arg1 g fun _ g=>arg1 g fun _ g=>arg1 g fun _ g=>arg1 g fun _ g=>arg1 g fun g h=>arg1 h fun h i=>arg1 i fun i _=>faddrK 1 a fun l=>loadK e l fun l=>mQ (s357_39 F j c e n f g h i a b d) (lenSl l)
def s357_41:KR:=fun d e f=>pickK b fT d fun b=>cB b false (mJ (fun _ a b=>k fT a b) fun b=>iterN n (s357_40 F b n a c) [I 0,.bad,.bad,.bad,.bad,.bad,.bad,.bad,.bad,.bad,.bad,.bad,.bad,.bad,.bad,.bad,.bad,.bad,.bad,.bad,.bad,.bad,.bad,.bad,.bad,.bad,.bad,.bad,.bad,.bad,.bad,.bad,.bad,.bad,.bad] e f)
def s357_42:KR:=fun e f g=>jRn b f g (s357_41 F k n a b d) fun a=>gtrI c e fun b=>a b f g
def s357_43:KR:=fun e f g=>jRn b f g (s357_42 F k n a b c d) fun a=>mQ (fun b=>a b f g) (lenSl e)
def s357_44:KR:=fun e f g=>jRn b f g (s357_43 F k n a b c d) fun a=>loadK f e fun b=>a b f g
def s357_45:KR:=fun d e f=>jRn b e f (s357_44 F k n a b d c) fun b=>faddrK 1 a fun a=>b a e f
def s357_46:KR:=fun d e f=>jRn b e f (s357_45 F k n a b c) fun a=>loadK e d fun b=>a b e f
def s357_47:KR:=fun d e f=>pickK a fT d fun a=>jRn a e f (s357_46 F k n b a c) fun a=>faddrK 2 b fun b=>a b e f
def s357_48:KR:=fun d e f=>jRn a e f (s357_47 F k n a b c) fun a=>gtrI d (I 60) fun b=>a b e f
def s357_49:KR:=fun d e f=>jRn a e f (s357_48 F k n a b c) fun a=>loadK e d fun b=>a b e f
def s357_50:KQ:=fun d=>lssI c d fun c=>jRn c H m (s357_49 F k n c a b) fun b=>faddrK 2 a fun a=>b a H m
def s357(a:Nat):Hand:=fun b _ c d e f=>arg1 c fun c g=>arg0 g (boxE c d e fun c d=>forceN (Nat.succ e) fun e=>b 49 [] d e fun d e g=>faddrK 2 c fun h=>loadK e h fun h=>mQ (s357_50 b e f a g c d h) (lenSl d))
theorem h357:HO 357 s357:=hO 1 (T2 L0 (T2 L0 (T2 (T2 L0 (T2 .stop L0)) (T2 (T2 L0 (.one [] (.one [4,37,38,39,40,41,42,43,44,45,46,49,50,51,52,53,54,55,56,57,58,59,60,61,62,63,64,65,66,67,68,69,76,77,78] (T2 (T2 L0 (T2 L0 L0)) (T2 (.one [37,38,39,40,41,42,43,44,45,46,49,50,51,52,53,54,55,56,57,58,59,60,61,62,63,64,65,66,67,68,69,76,77,78] (T2 (T2 L0 (T2 .stop L0)) (T2 L0 (.one [76,77,78] (.one [5,76,77,78] (T2 (T2 L0 (T2 L0 L0)) (T2 (.one [] (T2 L0 (T2 .stop L0))) L0))))))) L0))))) (T2 L0 L0))))) Tryz.func357 Tryz.call357 fun N F G l H n k=>by kernel_rfl
def s358_0:KJ:=fun b c d=>arg1 b fun b e=>arg1 e fun e f=>arg1 f fun f g=>arg1 g fun g h=>arg1 h fun h i=>arg1 i fun i l=>arg1 l fun l _=>addI a (I 1) fun a=>j [a,b,e,f,g,h,i,l] c d
def s358_1:KR:=fun h i l=>pickK a fT h fun a=>cB a false (j [b,c,d,e,f,g,h] i l)
def s358_2:KR:=fun g h i=>jRn a h i (s358_1 j a b c d e f g) fun a=>geqI f g fun b=>a b h i
def s358_3:KR:=fun g h i=>jRn a h i (s358_2 j a b c d e g) fun a=>a f h i
def s358_4:KR:=fun f g h=>jRn a g h (s358_3 j a b c d f e) fun a=>loadK g f fun b=>a b g h
def s358_5:KR:=fun e f g=>jRn a f g (s358_4 j a b c e d) fun a=>iaddrK 1 c e fun b=>a b f g
def s358_6:KR:=fun e f g=>jRn b f g (s358_5 j b c e d) fun b=>b a f g
def s358_7:KR:=fun d e f=>jRn b e f (s358_6 j a b d c) fun a=>loadK e d fun b=>a b e f
def s358_8:KQ:=fun d=>lssI a d fun d=>cB d (mJ (s358_0 J a) fun d=>faddrK 4 c fun e=>loadK H e fun e=>iaddrK 1 e a fun e=>loadK H e fun e=>lssI e (I 0) fun e=>jRn e H n (s358_7 d a e b) fun a=>faddrK 4 c fun b=>a b H n) (j [] H n)
def s358_9:KJ→KJ:=fun c d e f=>arg1 d fun d g=>arg1 g fun _ g=>arg1 g fun _ g=>arg1 g fun _ g=>arg1 g fun _ g=>arg1 g fun _ g=>arg1 g fun _ g=>arg1 g fun _ _=>faddrK 4 b fun g=>loadK e g fun g=>mQ (s358_8 j c e f d a b) (lenSl g)
def s358_10:KJ:=fun _ c d=>mJ (fun _ a b=>k fT a b) fun e=>iterN n (s358_9 e a b) [I 0,.bad,.bad,.bad,.bad,.bad,.bad,.bad] c d
def s358_11:KQ:=fun b=>lssI a b fun a=>cB a false (j [] H n)
def s358_12:KJ→KJ:=fun _ b c d=>arg1 b fun b _=>faddrK 5 a fun a=>loadK c a fun a=>mQ (s358_11 j c d b) (lenSl a)
def s358_13:KJ:=fun _ c d=>mJ (s358_10 k n a b) fun a=>iterN n (s358_12 a b) [I 0] c d
def s358_14:KJ:=fun b c d=>arg1 b fun b e=>arg1 e fun e f=>arg1 f fun f g=>arg1 g fun g h=>arg1 h fun h i=>arg1 i fun i l=>arg1 l fun l _=>addI a (I 1) fun a=>j [a,b,e,f,g,h,i,l] c d
def s358_15:KR:=fun h i l=>pickK a fT h fun a=>cB a false (j [b,c,d,e,f,g,h] i l)
def s358_16:KR:=fun g h i=>jRn a h i (s358_15 j a b c d e f g) fun a=>geqI f g fun b=>a b h i
def s358_17:KR:=fun g h i=>jRn b h i (s358_16 j b c d e f g) fun b=>b a h i
def s358_18:KR:=fun f g h=>jRn b g h (s358_17 j a b c d e f) fun a=>loadK g f fun b=>a b g h
def s358_19:KR:=fun e f g=>jRn b f g (s358_18 j a b c d e) fun a=>iaddrK 1 d e fun b=>a b f g
def s358_20:KR:=fun e f g=>jRn c f g (s358_19 j a c d e) fun a=>a b f g
def s358_21:KR:=fun d e f=>jRn c e f (s358_20 j a b c d) fun a=>loadK e d fun b=>a b e f
def s358_22:KQ:=fun d=>lssI b d fun d=>cB d (mJ (s358_14 J b) fun d=>faddrK 1 c fun e=>loadK H e fun e=>iaddrK 1 e b fun e=>loadK H e fun e=>lssI e (I 0) fun e=>jRn e H n (s358_21 d a b e) fun a=>faddrK 1 c fun b=>a b H n) (j [] H n)
def s358_23:KJ→KJ:=fun c d e f=>arg1 d fun d g=>arg1 g fun _ g=>arg1 g fun _ g=>arg1 g fun _ g=>arg1 g fun _ g=>arg1 g fun _ g=>arg1 g fun _ g=>arg1 g fun _ _=>faddrK 1 b fun g=>loadK e g fun g=>mQ (s358_22 j c e f a d b) (lenSl g)
def s358_24:KR:=fun e f g=>pickK a fT e fun a=>cB a false (mJ (s358_13 k n c d) fun a=>iterN n (s358_23 a b d) [I 0,.bad,.bad,.bad,.bad,.bad,.bad,.bad] f g)
def s358_25:KR:=fun f g h=>jRn a g h (s358_24 k n a b d e) fun a=>pickK c f fF fun b=>a b g h
def s358_26:KR:=fun f g h=>jR c g h (s358_25 k n a b c d e) fun a=>gtrI f (I 0) fun b=>a b g h
def s358_27:KR:=fun f g h=>jR c g h (s358_26 k n a b c d e) fun a=>mQ (fun b=>a b g h) (lenSl f)
def s358_28:KR:=fun f g h=>jR c g h (s358_27 k n a b c d e) fun a=>loadK g f fun b=>a b g h
def s358_29:KR:=fun e f g=>jR e f g (s358_28 k n a b e c d) fun a=>faddrK 5 d fun b=>a b f g
def s358_30:KR:=fun e f g=>jRn a f g (s358_29 k n a b c d) fun a=>a e f g
def s358_31:KR:=fun e f g=>jRn a f g (s358_30 k n a b c d) fun a=>strB .neq e (.str 4 1668248176) fun b=>a b f g
def s358_32:KR:=fun e f g=>jRn a f g (s358_31 k n a b c d) fun a=>loadK f e fun b=>a b f g
def s358_33:KR:=fun e f g=>pickK a fT e fun a=>jRn a f g (s358_32 k n a b c d) fun a=>faddrK 0 d fun b=>a b f g
def s358_34:KR:=fun e f g=>jRn a f g (s358_33 k n a b c d) fun a=>gtrI e (I 1099511627776) fun b=>a b f g
def s358_35:KR:=fun e f g=>jRn a f g (s358_34 k n a b c d) fun a=>loadK f e fun b=>a b f g
def s358_36:KR:=fun e f g=>pickK a fT e fun a=>jRn a f g (s358_35 k n a b c d) fun a=>faddrK 3 d fun b=>a b f g
def s358_37:KR:=fun e f g=>jRn a f g (s358_36 k n a b c d) fun a=>lssI e (.int .i64 (.negSucc 1099511627775)) fun b=>a b f g
def s358_38:KR:=fun e f g=>jRn a f g (s358_37 k n a b c d) fun a=>loadK f e fun b=>a b f g
def s358_39:KR:=fun e f g=>pickK a e fF fun a=>jRn a f g (s358_38 k n a b c d) fun a=>faddrK 3 d fun b=>a b f g
def s358_40:KR:=fun e f g=>jR a f g (s358_39 k n a b c d) fun a=>neqI e (I 0) fun b=>a b f g
def s358_41:KR:=fun e f g=>jR a f g (s358_40 k n a b c d) fun a=>loadK f e fun b=>a b f g
def s358_42:KR:=fun e f g=>pickK a fT e fun a=>notB a fun a=>jR a f g (s358_41 k n a b c d) fun a=>faddrK 3 d fun b=>a b f g
def s358_43:KR:=fun e f g=>jRn a f g (s358_42 k n a b c d) fun a=>strB .eql e (.str 7 32772496251117923) fun b=>a b f g
def s358_44:KR:=fun e f g=>jRn a f g (s358_43 k n a b c d) fun a=>loadK f e fun b=>a b f g
def s358_45:KR:=fun e f g=>pickK a fT e fun a=>cB a false (faddrK 0 d fun a=>loadK f a fun a=>strB .eql a (.str 3 7630441) fun a=>jRn a f g (s358_44 k n a b c d) fun a=>faddrK 0 d fun b=>a b f g)
def s358_46:KR:=fun e f g=>jRn a f g (s358_45 k n a b c d) fun a=>notB e fun b=>a b f g
def s358_47:KR:=fun e f g=>jRn a f g (s358_46 k n a b c d) (F 372 [e] f g)
def s358_48:KR:=fun e f g=>pickK d fT e fun d=>jRn d f g (s358_47 F k n d a b c) fun a=>loadNK 6 f c fun b=>a b f g
def s358_49:KR:=fun f g h=>jRn e g h (s358_48 F k n b c d e) fun b=>gtrI a f fun a=>b a g h
def s358_50:KR:=fun f g h=>jRn e g h (s358_49 F k n a b c d e) fun a=>loadK g f fun b=>a b g h
def s358_51:KR:=fun e f g=>jRn d f g (s358_50 F k n e a b c d) fun a=>iaddrAK 4 1 (.ptr m 0) (I 3) fun b=>a b f g
def s358_52:KR:=fun e f g=>jRn d f g (s358_51 F k n m a b c d) fun a=>mQ (fun b=>a b f g) (lenSl e)
def s358_53:KR:=fun e f g=>jRn d f g (s358_52 F k n m a b c d) fun a=>loadK f e fun b=>a b f g
def s358_54:KR:=fun e f g=>pickK d fT e fun d=>jRn d f g (s358_53 F k n m a b c d) fun a=>faddrK 4 c fun b=>a b f g
def s358_55:KR:=fun f g h=>jRn d g h (s358_54 F k n m a b c d) fun a=>lssI e f fun b=>a b g h
def s358_56:KR:=fun f g h=>jRn d g h (s358_55 F k n m a b c d e) fun a=>loadK g f fun b=>a b g h
def s358_57:KR:=fun e f g=>jRn d f g (s358_56 F k n m a b c d e) fun a=>iaddrAK 4 1 (.ptr m 0) (I 2) fun b=>a b f g
def s358_58:KR:=fun e f g=>jRn d f g (s358_57 F k n m a b c d) fun a=>mQ (fun b=>a b f g) (lenSl e)
def s358_59:KR:=fun e f g=>jRn d f g (s358_58 F k n m a b c d) fun a=>loadK f e fun b=>a b f g
def s358_60:KR:=fun e f g=>pickK c fT e fun c=>jRn c f g (s358_59 F k n m a b d c) fun a=>faddrK 4 d fun b=>a b f g
def s358_61:KR:=fun f g h=>jRn c g h (s358_60 F k n m a b c e) fun a=>gtrI d f fun b=>a b g h
def s358_62:KR:=fun f g h=>jRn c g h (s358_61 F k n m a b c d e) fun a=>loadK g f fun b=>a b g h
def s358_63:KR:=fun e f g=>jRn c f g (s358_62 F k n m a b c e d) fun a=>iaddrAK 4 1 (.ptr m 0) (I 1) fun b=>a b f g
def s358_64:KR:=fun e f g=>jRn c f g (s358_63 F k n m a b c d) fun a=>mQ (fun b=>a b f g) (lenSl e)
def s358_65:KR:=fun e f g=>jRn c f g (s358_64 F k n m a b c d) fun a=>loadK f e fun b=>a b f g
def s358_66:KR:=fun e f g=>pickK b fT e fun b=>jRn b f g (s358_65 F k n m a c b d) fun a=>faddrK 1 d fun b=>a b f g
def s358_67:KR:=fun f g h=>jRn b g h (s358_66 F k n m a b d e) fun a=>lssI c f fun b=>a b g h
def s358_68:KR:=fun f g h=>jRn b g h (s358_67 F k n m a b c d e) fun a=>loadK g f fun b=>a b g h
def s358_69:KR:=fun e f g=>jRn b f g (s358_68 F k n m a b e c d) fun a=>iaddrAK 4 1 (.ptr m 0) (I 0) fun b=>a b f g
def s358_70:KR:=fun e f g=>jRn b f g (s358_69 F k n m a b c d) fun a=>mQ (fun b=>a b f g) (lenSl e)
def s358_71:KR:=fun e f g=>jRn b f g (s358_70 F k n m a b c d) fun a=>loadK f e fun b=>a b f g
def s358(a:Nat):Hand:=fun b _ c d e f=>arg1 c fun c g=>arg1 g fun g h=>arg1 h fun h i=>arg0 i (boxE c d e fun c d=>forceN (Nat.succ e) fun e=>faddrK 0 c fun i=>loadK d i fun i=>b 371 [i] d e fun d e i=>extK 0 d fun j=>extK 1 d fun d=>newK [I 0,I 0,I 0,I 0] e i fun e=>forceN (Nat.succ i) fun l=>storeK 4 e (.ptr i 0) j fun _ e=>notB d fun d=>jRn d e l (s358_71 b f a i g d h c) fun a=>faddrK 1 c fun b=>a b e l)
theorem h358:HO 358 s358:=hO 3 (T2 L0 (T2 L0 (T2 (T2 L0 (T2 .stop L0)) (T2 L0 (T2 (T2 L0 (T2 .stop L0)) (T2 (T2 L0 (.one [] (.one [10,108,109,110,111,112,113,114] (T2 (T2 L0 (T2 L0 L0)) (T2 (.one [108,109,110,111,112,113,114] (T2 L0 (T2 .stop L0))) L0))))) (T2 (T2 L0 (.one [] (.one [11] (T2 (T2 L0 (T2 .stop L0)) .stop)))) (T2 (T2 L0 (.one [] (.one [12,152,153,154,155,156,157,158] (T2 (T2 L0 (T2 L0 L0)) (T2 (.one [152,153,154,155,156,157,158] (T2 L0 (T2 .stop L0))) L0))))) (T2 L0 L0))))))))) Tryz.func358 Tryz.call358 fun N F G l H n k=>by kernel_rfl
def s359_0:KR:=fun b c d=>pickK a b fF fun a=>k a c d
def s359_1:KR:=fun b c d=>jR a c d (s359_0 k a) fun a=>loadK c b fun b=>a b c d
def s359_2:KR:=fun b c d=>jR a c d (s359_1 k a) fun a=>faddrK 2 b fun b=>a b c d
def s359_3:KR:=fun b c d=>jR a c d (s359_2 k a) fun a=>nilK b (a b c d)
def s359(_:Nat):Hand:=fun _ _ a b c d=>arg1 a fun a e=>arg0 e (nilPE .neq a fun e=>jR e b c (s359_3 d e) fun d=>d a b c)
theorem h359:HO 359 s359:=hO 1 (T2 L0 (T2 L0 L0)) Tryz.func359 Tryz.call359 fun N F G l H n k=>by kernel_rfl
def s360_0:KR:=fun b c d=>pickK a b fF fun a=>k a c d
def s360_1:KR:=fun b c d=>jR a c d (s360_0 k a) fun a=>eqlI b (I 0) fun b=>a b c d
def s360_2:KR:=fun b c d=>jR a c d (s360_1 k a) fun a=>mQ (fun b=>a b c d) (lenSl b)
def s360_3:KR:=fun b c d=>jR a c d (s360_2 k a) fun a=>loadK c b fun b=>a b c d
def s360_4:KR:=fun c d e=>pickK a c fF fun a=>jR a d e (s360_3 k a) fun a=>faddrK 3 b fun b=>a b d e
def s360_5:KR:=fun c d e=>jR a d e (s360_4 k a b) fun a=>strB .eql c (.str 0 0) fun b=>a b d e
def s360_6:KR:=fun c d e=>jR a d e (s360_5 k a b) fun a=>loadK d c fun b=>a b d e
def s360_7:KR:=fun c d e=>pickK a c fF fun a=>jR a d e (s360_6 k a b) fun a=>faddrK 2 b fun b=>a b d e
def s360_8:KR:=fun c d e=>jR a d e (s360_7 k a b) fun a=>leqI c (I 1099511627776) fun b=>a b d e
def s360_9:KR:=fun c d e=>jR a d e (s360_8 k a b) fun a=>loadK d c fun b=>a b d e
def s360_10:KR:=fun b c d=>pickK a b fF fun a=>k a c d
def s360_11:KR:=fun b c d=>jR a c d (s360_10 k a) fun a=>eqlI b (I 0) fun b=>a b c d
def s360_12:KR:=fun b c d=>jR a c d (s360_11 k a) fun a=>mQ (fun b=>a b c d) (lenSl b)
def s360_13:KR:=fun b c d=>jR a c d (s360_12 k a) fun a=>loadK c b fun b=>a b c d
def s360_14:KR:=fun c d e=>pickK b c fF fun b=>jR b d e (s360_13 k b) fun b=>faddrK 3 a fun a=>b a d e
def s360_15:KR:=fun c d e=>jR b d e (s360_14 k a b) fun a=>eqlI c (I 0) fun b=>a b d e
def s360_16:KR:=fun c d e=>jR b d e (s360_15 k a b) fun a=>loadK d c fun b=>a b d e
def s360_17:KR:=fun b c d=>pickK a b fF fun a=>k a c d
def s360_18:KR:=fun b c d=>jR a c d (s360_17 k a) fun a=>eqlI b (I 0) fun b=>a b c d
def s360_19:KR:=fun b c d=>jR a c d (s360_18 k a) fun a=>mQ (fun b=>a b c d) (lenSl b)
def s360_20:KR:=fun b c d=>jR a c d (s360_19 k a) fun a=>loadK c b fun b=>a b c d
def s360_21:KR:=fun c d e=>pickK a c fF fun a=>jR a d e (s360_20 k a) fun a=>faddrK 3 b fun b=>a b d e
def s360_22:KR:=fun c d e=>jR a d e (s360_21 k a b) fun a=>geqI c (I 0) fun b=>a b d e
def s360_23:KR:=fun c d e=>jR a d e (s360_22 k a b) fun a=>loadK d c fun b=>a b d e
def s360_24:KR:=fun c d e=>pickK a fT c fun a=>jR a d e (s360_23 k a b) fun a=>faddrK 1 b fun b=>a b d e
def s360_25:KR:=fun c d e=>jRn a d e (s360_24 k a b) fun a=>strB .eql c (.str 4 1953656688) fun b=>a b d e
def s360_26:KR:=fun c d e=>jRn a d e (s360_25 k a b) fun a=>loadK d c fun b=>a b d e
def s360_27:KR:=fun c d e=>pickK a fT c fun a=>jRn a d e (s360_26 k a b) fun a=>faddrK 2 b fun b=>a b d e
def s360_28:KR:=fun c d e=>jRn a d e (s360_27 k a b) fun a=>strB .eql c (.str 4 1819043171) fun b=>a b d e
def s360_29:KR:=fun c d e=>jRn a d e (s360_28 k a b) fun a=>loadK d c fun b=>a b d e
def s360_30:KJ:=fun b c d=>arg1 b fun b e=>arg1 e fun e f=>arg1 f fun f g=>arg1 g fun g h=>arg1 h fun h i=>arg1 i fun i l=>arg1 l fun l _=>addI a (I 1) fun a=>j [a,b,e,f,g,h,i,l] c d
def s360_31:KR:=fun h i l=>pickK a fT h fun a=>cB a false (j [b,c,d,e,f,g,h] i l)
def s360_32:KR:=fun g h i=>jRn a h i (s360_31 j a b c d e f g) fun a=>geqI f g fun b=>a b h i
def s360_33:KR:=fun g h i=>jRn b h i (s360_32 j b c d e f g) fun b=>b a h i
def s360_34:KR:=fun f g h=>jRn b g h (s360_33 j a b c d e f) fun a=>loadK g f fun b=>a b g h
def s360_35:KR:=fun e f g=>jRn b f g (s360_34 j a b c d e) fun a=>iaddrK 1 d e fun b=>a b f g
def s360_36:KR:=fun e f g=>jRn c f g (s360_35 j a c d e) fun a=>a b f g
def s360_37:KR:=fun d e f=>jRn c e f (s360_36 j a b c d) fun a=>loadK e d fun b=>a b e f
def s360_38:KQ:=fun d=>lssI b d fun d=>cB d (mJ (s360_30 J b) fun d=>faddrK 3 c fun e=>loadK H e fun e=>iaddrK 1 e b fun e=>loadK H e fun e=>lssI e (I 0) fun e=>jRn e H n (s360_37 d a b e) fun a=>faddrK 3 c fun b=>a b H n) (j [] H n)
def s360_39:KJ→KJ:=fun c d e f=>arg1 d fun d g=>arg1 g fun _ g=>arg1 g fun _ g=>arg1 g fun _ g=>arg1 g fun _ g=>arg1 g fun _ g=>arg1 g fun _ g=>arg1 g fun _ _=>faddrK 3 b fun g=>loadK e g fun g=>mQ (s360_38 j c e f a d b) (lenSl g)
def s360_40:KR:=fun d e f=>pickK b fT d fun b=>cB b false (mJ (fun _ a b=>k fT a b) fun b=>iterN n (s360_39 b a c) [I 0,.bad,.bad,.bad,.bad,.bad,.bad,.bad] e f)
def s360_41:KR:=fun d e f=>jRn b e f (s360_40 k n a b c) fun a=>gtrI d (I 8) fun b=>a b e f
def s360_42:KR:=fun d e f=>jRn b e f (s360_41 k n a b c) fun a=>mQ (fun b=>a b e f) (lenSl d)
def s360_43:KR:=fun d e f=>jRn b e f (s360_42 k n a b c) fun a=>loadK e d fun b=>a b e f
def s360_44:KR:=fun d e f=>pickK b fT d fun b=>jRn b e f (s360_43 k n a b c) fun a=>faddrK 3 c fun b=>a b e f
def s360_45:KR:=fun d e f=>jRn b e f (s360_44 k n a b c) fun a=>lssI d (I 1) fun b=>a b e f
def s360_46:KR:=fun d e f=>jRn b e f (s360_45 k n a b c) fun a=>mQ (fun b=>a b e f) (lenSl d)
def s360_47:KR:=fun d e f=>jRn b e f (s360_46 k n a b c) fun a=>loadK e d fun b=>a b e f
def s360_48:KR:=fun d e f=>pickK b fT d fun b=>jRn b e f (s360_47 k n a b c) fun a=>faddrK 3 c fun b=>a b e f
def s360_49:KR:=fun d e f=>jRn b e f (s360_48 k n a b c) fun a=>neqI d (I 0) fun b=>a b e f
def s360_50:KR:=fun d e f=>jRn b e f (s360_49 k n a b c) fun a=>loadK e d fun b=>a b e f
def s360(a:Nat):Hand:=fun b _ c d e f=>arg1 c fun c g=>arg1 g fun g h=>arg0 h (boxE c d e fun c d=>forceN (Nat.succ e) fun e=>faddrK 0 c fun h=>loadK d h fun h=>mJ (fun _ _ _=>false) fun _=>eqlI h (I 0) fun i=>cB i false (eqlI h (I 1) fun i=>cB i (faddrK 1 c fun a=>loadK d a fun a=>geqI a (.int .i64 (.negSucc 1099511627775)) fun a=>jR a d e (s360_9 f a c) fun a=>faddrK 1 c fun b=>a b d e) (eqlI h (I 2) fun i=>cB i (faddrK 2 c fun a=>loadK d a fun a=>b 231 [a] d e fun a b d=>jR a b d (s360_16 f c a) fun a=>faddrK 1 c fun c=>a c b d) (eqlI h (I 4) fun i=>cB i (faddrK 2 c fun a=>loadK d a fun a=>strB .eql a (.str 4 1668248176) fun a=>jRn a d e (s360_29 f a c) fun a=>faddrK 2 c fun b=>a b d e) (eqlI h (I 3) fun h=>cB h (faddrK 2 c fun h=>loadK d h fun h=>b 231 [h] d e fun b d e=>notB b fun b=>jRn b d e (s360_50 f a g b c) fun a=>faddrK 1 c fun b=>a b d e) false)))))
theorem h360:HO 360 s360:=hO 2 (T2 L0 (T2 (T2 L0 (.one [] (T2 L0 (T2 .stop (T2 L0 (T2 (T2 L0 L0) (T2 L0 (T2 (T2 L0 L0) (T2 L0 (T2 (T2 L0 L0) (T2 L0 (T2 (T2 (T2 L0 (T2 .stop L0)) (T2 (T2 L0 (.one [] (.one [5,124,125,126,127,128,129,130] (T2 (T2 L0 (T2 L0 L0)) (T2 (.one [124,125,126,127,128,129,130] (T2 L0 (T2 .stop L0))) L0))))) (T2 L0 L0))) .stop)))))))))))) .stop)) Tryz.func360 Tryz.call360 fun N F G l H n k=>by kernel_rfl
def s361_0:KR:=fun e f g=>pickK b fT e fun b=>cB b false (F 374 [a,c,d] f g fun b c d=>extK 0 b fun e=>extK 1 b fun b=>notB b fun b=>cB b false (F 375 [a,e] c d fun b c d=>nilK a (faddrK 1 a fun a=>storeK 1 c a e fun _ a=>AV.ckOk b (AV.ckOk (I 0) (k (.tup [b,I 0]) a d)))))
def s361_1:KR:=fun e f g=>jRn b f g (s361_0 F k a b c d) fun a=>notB e fun b=>a b f g
def s361_2:KR:=fun f g h=>jRn b g h (s361_1 F k a b d e) (F 373 [c,f] g h)
def s361_3:KR:=fun e f g=>jRn b f g (s361_2 F k a b e c d) fun a=>a d f g
def s361(_:Nat):Hand:=fun a _ b c d e=>arg1 b fun b f=>arg1 f fun f g=>arg1 g fun g h=>arg0 h (a 359 [b] c d fun c d h=>notB c fun c=>cB c false (a 373 [b,f] d h fun c d h=>notB c fun c=>jRn c d h (s361_3 a e b c f g) fun a=>a b d h))
theorem h361:HO 361 s361:=hO 3 (T2 L0 (T2 (T2 L0 (T2 .stop L0)) (T2 (T2 L0 (T2 .stop L0)) (T2 L0 (T2 (T2 L0 (T2 .stop L0)) (T2 L0 (T2 L0 (T2 L0 L0)))))))) Tryz.func361 Tryz.call361 fun N F G l H n k=>by kernel_rfl
def s362(_:Nat):Hand:=fun a _ b c d e=>arg1 b fun b f=>arg1 f fun f g=>arg0 g (newK [I 0,I 0,.str 0 0,.nils] c d fun c=>forceN (Nat.succ d) fun g=>a 359 [b] c g fun c g h=>notB c fun c=>cB c false (a 373 [b,f] g h fun c g h=>notB c fun c=>cB c false (a 376 [b,f] g h fun a b c=>storeK 4 b (.ptr d 0) a fun _ a=>loadNK 4 a (.ptr d 0) fun b=>AV.ckOk b (AV.ckOk (I 0) (e (.tup [b,I 0]) a c)))))
theorem h362:HO 362 s362:=hO 2 (T2 L0 (T2 (T2 L0 (T2 .stop L0)) (T2 (T2 L0 (T2 .stop L0)) (T2 L0 L0)))) Tryz.func362 Tryz.call362 fun N F G l H n k=>by kernel_rfl
def s368_0:KJ:=fun _ b c=>mJ (fun _ _ _=>false) fun _=>F 225 [a,.str 1 95] b c fun b c d=>cB b false (F 225 [a,.str 1 123] c d fun b c d=>cB b (F 380 [a,.str 1 125] c d fun a b c=>AV.ckOne (.str 4 1819042147) (AV.ckOne a (storeK 4 b (.ptr n 0) (.agg [.str 4 1819042147,.str 0 0,I 0,a]) fun _ a=>loadNK 4 a (.ptr n 0) fun b=>k b a c))) false)
def s368_1:KQ:=fun c=>gtrI c (I 8) fun c=>cB c false (AV.ckOne (.str 5 435611006324) (AV.ckOne a (AV.ckOne b (storeK 4 H (.ptr n 0) (.agg [.str 5 435611006324,a,I 0,b]) fun _ a=>loadNK 4 a (.ptr n 0) fun b=>k b a m))))
def s368(_:Nat):Hand:=fun a _ b c d e=>arg1 b fun b f=>arg0 f (newK [.str 0 0,.str 0 0,I 0,.nils] c d fun c=>forceN (Nat.succ d) fun f=>a 315 [b] c f fun c f g=>mJ (s368_0 a e d b) fun h=>eqlI c (I 1) fun i=>cB i (nilK b (faddrK 0 b fun c=>loadK f c fun c=>nilK b (faddrK 1 b fun h=>loadK f h fun h=>iaddrK 3 c h fun c=>faddrK 1 c fun c=>loadK f c fun c=>nilK b (faddrK 1 b fun h=>loadK f h fun h=>addI h (I 1) fun h=>nilK b (faddrK 1 b fun b=>storeK 1 f b h fun _ b=>indexStrK c (I 0) fun f=>eqlI f (.int .u8 (.ofNat 45)) fun f=>cB f false (a 348 [c] b g fun a b c=>AV.ckOne (.str 3 7630441) (AV.ckOne a (storeK 4 b (.ptr d 0) (.agg [.str 3 7630441,.str 0 0,a,.nils]) fun _ a=>loadNK 4 a (.ptr d 0) fun b=>e b a c)))))))) (eqlI c (I 3) fun i=>cB i (a 312 [b] f g fun a b c=>storeK 4 b (.ptr d 0) a fun _ a=>loadNK 4 a (.ptr d 0) fun b=>e b a c) (eqlI c (I 2) fun c=>cB c (nilK b (faddrK 0 b fun c=>loadK f c fun c=>nilK b (faddrK 1 b fun h=>loadK f h fun h=>iaddrK 3 c h fun c=>faddrK 1 c fun c=>loadK f c fun c=>nilK b (faddrK 1 b fun h=>loadK f h fun h=>addI h (I 1) fun h=>nilK b (faddrK 1 b fun i=>storeK 1 f i h fun _ f=>a 225 [b,.str 1 40] f g fun f g h=>notB f fun f=>cB f false (a 380 [b,.str 1 41] g h fun a b f=>mQ (s368_1 b e d f c a) (lenSl a))))))) (h [] f g))))
theorem h368:HO 368 s368:=hO 1 (T2 L0 (T2 (T2 L0 (.one [] (T2 L0 (T2 (T2 L0 (T2 L0 (T2 (T2 L0 (T2 .stop L0)) (T2 L0 L0)))) (T2 L0 (T2 (T2 L0 L0) (T2 L0 (T2 (T2 L0 (T2 L0 (T2 (T2 L0 (T2 .stop L0)) (T2 L0 (T2 (T2 L0 (T2 .stop L0)) (T2 L0 L0)))))) L0)))))))) (T2 (.one [] (T2 L0 (T2 .stop (T2 L0 (T2 (T2 L0 L0) .stop))))) .stop))) Tryz.func368 Tryz.call368 fun N F G l H n k=>by kernel_rfl
def s371_0:KJ:=fun b c d=>arg1 b fun b _=>cB b (AV.ckOne (I 1) (AV.ckOne (I 1) (AV.ckOne (I 0) (AV.ckOne (I 0) (storeK 4 c (.ptr n 0) (.agg [I 1,I 1,I 0,I 0]) fun _ a=>loadNK 4 a (.ptr n 0) fun b=>AV.ckOk b (AV.ckOk fT (k (.tup [b,.bool true]) a d))))))) (strB .eql a (.str 5 435611006324) fun b=>cB b (AV.ckOne (I 2) (AV.ckOne (I 9) (AV.ckOne (I 0) (AV.ckOne (I 0) (storeK 4 c (.ptr n 0) (.agg [I 2,I 9,I 0,I 0]) fun _ a=>loadNK 4 a (.ptr n 0) fun b=>AV.ckOk b (AV.ckOk fT (k (.tup [b,.bool true]) a d))))))) (strB .eql a (.str 4 1668248176) fun b=>cB b false (strB .eql a (.str 2 26217) fun b=>cB b false (strB .eql a (.str 7 32772496251117923) fun b=>cB b false (strB .eql a (.str 8 7885649434211737955) fun b=>cB b false (strB .eql a (.str 3 7959156) fun b=>cB b false (strB .eql a (.str 9 1870935025940931240291) fun b=>cB b false (strB .eql a (.str 5 521510350945) fun b=>cB b (AV.ckOne (I 1) (AV.ckOne (I 1073741824) (AV.ckOne (I 0) (AV.ckOne (I 0) (storeK 4 c (.ptr n 0) (.agg [I 1,I 1073741824,I 0,I 0]) fun _ a=>loadNK 4 a (.ptr n 0) fun b=>AV.ckOk b (AV.ckOk fT (k (.tup [b,.bool true]) a d))))))) (strB .eql a (.str 6 110369476601972) fun a=>cB a (AV.ckOne (I 0) (AV.ckOne (I 0) (AV.ckOne (I 1) (AV.ckOne (I 1) (storeK 4 c (.ptr n 0) (.agg [I 0,I 0,I 1,I 1]) fun _ a=>loadNK 4 a (.ptr n 0) fun b=>AV.ckOk b (AV.ckOk fT (k (.tup [b,.bool true]) a d))))))) false)))))))))
def s371_1:KJ:=fun b c d=>arg1 b fun b _=>cB b (AV.ckOne (I 0) (AV.ckOne (I 0) (AV.ckOne (I 2) (AV.ckOne (I 1073741824) (storeK 4 c (.ptr n 0) (.agg [I 0,I 0,I 2,I 1073741824]) fun _ a=>loadNK 4 a (.ptr n 0) fun b=>AV.ckOk b (AV.ckOk fT (k (.tup [b,.bool true]) a d))))))) (strB .eql a (.str 5 465490374508) fun b=>cB b (AV.ckOne (I 1) (AV.ckOne (I 1073741824) (AV.ckOne (I 1) (AV.ckOne (I 1) (storeK 4 c (.ptr n 0) (.agg [I 1,I 1073741824,I 1,I 1]) fun _ a=>loadNK 4 a (.ptr n 0) fun b=>AV.ckOk b (AV.ckOk fT (k (.tup [b,.bool true]) a d))))))) (strB .eql a (.str 4 1684957538) fun b=>cB b false (mJ (s371_0 k n a) fun b=>strB .eql a (.str 3 7630441) fun e=>cB e (b [e] c d) (strB .eql a (.str 4 1836020833) fun e=>cB e false (strB .eql a (.str 5 435727982962) fun a=>b [a] c d)))))
def s371(_:Nat):Hand:=fun _ _ a b c d=>arg1 a fun a e=>arg0 e (newK [I 0,I 0,I 0,I 0] b c fun b=>forceN (Nat.succ c) fun e=>mJ (fun _ _ _=>false) fun _=>strB .eql a (.str 4 1885956979) fun f=>cB f false (mJ (s371_1 d c a) fun c=>strB .eql a (.str 3 7431539) fun d=>cB d (c [d] b e) (strB .eql a (.str 6 111546465216611) fun a=>c [a] b e)))
theorem h371:HO 371 s371:=hO 1 (T2 L0 (T2 (T2 L0 (.one [] (T2 L0 (T2 .stop (.join [8] (T2 L0 (T2 L0 L0)) (T2 (T2 L0 L0) (T2 L0 (T2 (T2 L0 L0) (T2 L0 (T2 .stop (.join [18] (T2 L0 (T2 L0 (T2 L0 (T2 .stop L0)))) (T2 (T2 L0 L0) (T2 L0 (T2 (T2 L0 L0) (T2 L0 (T2 .stop (T2 (T2 L0 (T2 .stop (T2 L0 (T2 .stop (T2 L0 (T2 .stop L0)))))) (T2 .stop (T2 L0 (T2 .stop (T2 L0 (T2 (T2 L0 L0) (T2 L0 (T2 (T2 L0 L0) .stop)))))))))))))))))))))))) .stop)) Tryz.func371 Tryz.call371 fun N F G l H n k=>by kernel_rfl
def s372_0:KJ:=fun _ b c=>faddrK 2 a fun a=>loadK b a fun a=>strB .eql a (.str 0 0) fun a=>k a b c
def s372_1:KJ:=fun c d e=>arg1 c fun c _=>cB c (faddrK 2 a fun a=>loadK d a fun a=>F 231 [a] d e k) (strB .eql b (.str 2 28783) fun a=>cB a false (j [] d e))
def s372(_:Nat):Hand:=fun a _ b c d e=>arg1 b fun b f=>arg0 f (boxE b c d fun b c=>forceN (Nat.succ d) fun d=>faddrK 0 b fun f=>loadK c f fun f=>mJ (s372_0 e b) fun g=>mJ (s372_1 a g e b f) fun a=>strB .eql f (.str 4 1836020833) fun b=>cB b false (strB .eql f (.str 8 7885649434211737955) fun b=>cB b false (strB .eql f (.str 5 435611006324) fun b=>cB b (a [b] c d) (strB .eql f (.str 9 1870935025940931240291) fun b=>a [b] c d))))
theorem h372:HO 372 s372:=hO 1 (T2 L0 (T2 (T2 L0 (.one [] (.join [5] (T2 L0 (T2 .stop (T2 L0 (T2 .stop (T2 L0 (T2 L0 L0)))))) (T2 (T2 L0 L0) (T2 L0 (T2 .stop L0)))))) (T2 L0 L0))) Tryz.func372 Tryz.call372 fun N F G l H n k=>by kernel_rfl
def s373_0:KR:=fun b c d=>pickK a b fF fun a=>k a c d
def s373_1:KR:=fun c d e=>jR a d e (s373_0 k a) fun a=>lssI b c fun b=>a b d e
def s373_2:KR:=fun c d e=>jR a d e (s373_1 k a b) fun a=>mQ (fun b=>a b d e) (lenSl c)
def s373_3:KR:=fun c d e=>jR a d e (s373_2 k a b) fun a=>loadK d c fun b=>a b d e
def s373_4:KR:=fun c d e=>jR a d e (s373_3 k a b) fun a=>faddrK 0 c fun b=>a b d e
def s373_5:KR:=fun c d e=>jR a d e (s373_4 k a b) fun a=>nilK c (a c d e)
def s373_6:KR:=fun c d e=>jR b d e (s373_5 k b c) fun b=>b a d e
def s373(_:Nat):Hand:=fun _ _ a b c d=>arg1 a fun a e=>arg1 e fun e f=>arg0 f (geqI e (I 0) fun f=>jR f b c (s373_6 d a f) fun a=>a e b c)
theorem h373:HO 373 s373:=hO 2 (T2 L0 (T2 L0 L0)) Tryz.func373 Tryz.call373 fun N F G l H n k=>by kernel_rfl
def s374_0:KJ:=fun _ b c=>AV.ckOk a (AV.ckOk fT (k (.tup [a,.bool true]) b c))
def s374_1:KJ:=fun b c d=>arg1 b fun b e=>arg1 e fun e f=>arg1 f fun f g=>arg1 g fun g h=>arg1 h fun h i=>arg1 i fun i l=>arg1 l fun l m=>arg1 m fun m o=>arg1 o fun o p=>arg1 p fun p _=>addI a (I 1) fun a=>j [b,a,e,f,g,h,i,l,m,o,p] c d
def s374_2:KJ:=fun e f g=>arg1 e fun e h=>arg1 h fun h i=>arg1 i fun i l=>arg1 l fun l m=>arg1 m fun m o=>arg1 o fun o _=>j [d,a,b,c,e,h,i,l,m,o] f g
def s374_3:KJ:=fun b c d=>arg1 b fun b e=>arg1 e fun e f=>arg1 f fun f g=>arg1 g fun g h=>arg1 h fun h i=>arg1 i fun i _=>addI a (I 1) fun a=>j [a,b,e,f,g,h,i] c d
def s374_4:KR:=fun l m o=>pickK d fT l fun d=>cB d (iaddrK 1 a c fun a=>storeK 1 m a b fun _ a=>j [e,f,g,h,i,l] a o) (j [e,f,g,h,i,l] m o)
def s374_5:KR:=fun i l m=>jRn d l m (s374_4 j a b c d e f g h i) fun a=>eqlI h i fun b=>a b l m
def s374_6:KR:=fun i l m=>jRn d l m (s374_5 j a b c d e f g i) fun a=>a h l m
def s374_7:KR:=fun h i l=>jRn d i l (s374_6 j a b c d e f h g) fun a=>loadK i h fun b=>a b i l
def s374_8:KR:=fun g h i=>jRn d h i (s374_7 j a b c d e g f) fun a=>iaddrK 1 e g fun b=>a b h i
def s374_9:KR:=fun f g h=>jRn d g h (s374_8 j a b c d f e) fun a=>a c g h
def s374_10:KQ:=fun l=>lssI c l fun l=>cB l (mJ (s374_3 J c) fun d=>iaddrK 1 a c fun e=>loadK H e fun e=>eqlI e o fun e=>jRn e H n (s374_9 d a b c e p) fun b=>b a H n) (j [d,e,f,g,h,i] H n)
def s374_11:KJ→KJ:=fun e f g h=>arg1 f fun f i=>arg1 i fun i l=>arg1 l fun l m=>arg1 m fun m o=>arg1 o fun o p=>arg1 p fun p q=>arg1 q fun q _=>mQ (s374_10 j e g h a b f i l m o p q c d) (lenSl a)
def s374_12:KR:=fun l m q=>pickK c l fF fun c=>cB c false (F 387 [a,s,t] m q fun a c m=>mJ (s374_2 j d e l f) fun d=>iterN n (s374_11 d b a s t) [I 0,g,h,i,o,p,r] c m)
def s374_13:KR:=fun l m q=>jR c m q (s374_12 F j n a b c d l e f g h i o p r s) fun a=>neqI l (I 0) fun b=>a b m q
def s374_14:KR:=fun l m q=>jR c m q (s374_13 F j n a b c l d e f g h i o p r) fun a=>loadK m l fun b=>a b m q
def s374_15:KQ:=fun l=>lssI d l fun l=>cB l (mJ (s374_1 J d) fun j=>iaddrK 2 c d fun l=>iaddrAK 2 1 l (I 0) fun l=>loadK H l fun l=>iaddrK 1 b l fun l=>loadK H l fun l=>iaddrK 2 c d fun d=>iaddrAK 2 1 d (I 1) fun d=>loadK H d fun d=>iaddrK 1 b d fun d=>loadK H d fun d=>eqlI l d fun p=>cB p false (forceN (Nat.add m 2) fun p=>nilK a (faddrK 0 a fun q=>loadK H q fun q=>iaddrK 4 q l fun q=>loadNK 4 H q fun q=>nilK a (faddrK 0 a fun r=>loadK H r fun s=>iaddrK 4 s d fun t=>loadNK 4 H t fun u=>forceN (Nat.add m 0) fun v=>newK [I 0,I 0,.str 0 0,.nils] H v fun w=>at_ w v fun w=>forceN (Nat.add m 1) fun m=>newK [I 0,I 0,.str 0 0,.nils] H m fun x=>at_ x m fun x=>hput H v w fun w=>hput w m x fun w=>storeK 4 w (.ptr v 0) q fun _ q=>storeK 4 q (.ptr m 0) u fun _ w=>loadK q r fun r=>ifB (sameF 8 r s) (loadNK 4 q t fun q=>ifB (sameF 8 q u) (faddrK 0 (.ptr v 0) fun q=>loadK w q fun q=>neqI q (I 0) fun q=>jR q w p (s374_14 F j n a b q c e f g h i o l d) fun a=>faddrK 0 (.ptr m 0) fun b=>a b w p)))))) (j [] H m)
def s374_16:KJ→KJ:=fun c d e f=>arg1 d fun d g=>arg1 g fun g h=>arg1 h fun _ h=>arg1 h fun _ h=>arg1 h fun _ h=>arg1 h fun h i=>arg1 i fun i l=>arg1 l fun l m=>arg1 m fun m o=>arg1 o fun o p=>arg1 p fun p _=>mQ (s374_15 F j c e n f a b d g h i l m o p) (lenSl d)
def s374_17:KR:=fun d e f=>AV.ckOne b (AV.ckOne c (Ev.layK 0 2 true (.agg [b,c]) [I 0,I 0] fun b=>newK b e f fun b=>forceN (Nat.succ f) fun c=>mJ (s374_0 k d) fun e=>iterN n (s374_16 F e n a d) [.sl f 0 1 (.known 1),I 0,.bad,.bad,.bad,.bad,.bad,.bad,.bad,.bad,.bad] b c))
def s374(a:Nat):Hand:=fun b _ c d e f=>arg1 c fun c g=>arg1 g fun g h=>arg1 h fun h i=>arg0 i (newK [] d e fun d=>forceN (Nat.succ e) fun i=>nilK c (faddrK 1 c fun j=>loadK d j fun j=>mR (s374_17 b f a c g h) (appK 1 d i (.sl e 0 0 (.known 0)) j)))
theorem h374:HO 374 s374:=hO 3 (T2 L0 (T2 L0 (T2 L0 (T2 (T2 L0 (.one [] (.one [9,10,71,72,73,141,142,143,144,145,146] (T2 (T2 L0 (T2 L0 L0)) (T2 (.one [9,71,72,73,141,142,143,144,145,146] (T2 L0 (T2 (T2 L0 (T2 .stop L0)) (T2 L0 (T2 (T2 L0 (T2 .stop L0)) (T2 L0 (T2 L0 (.one [141,142,143,144,145,146] (.one [17,141,142,143,144,145,146] (T2 (T2 L0 (T2 L0 L0)) (T2 (.one [141,142,143,144,145,146] (T2 L0 (T2 L0 L0))) L0))))))))))) L0))))) (T2 L0 L0))))) Tryz.func374 Tryz.call374 fun N F G l H n k=>by kernel_rfl
def s375_0:KJ:=fun a b c=>arg1 a fun a _=>k a b c
def s375_1:KJ:=fun b c d=>arg1 b fun b e=>arg1 e fun e f=>arg1 f fun f g=>arg1 g fun g h=>arg1 h fun h i=>arg1 i fun i l=>arg1 l fun l m=>arg1 m fun m o=>arg1 o fun o p=>arg1 p fun p q=>arg1 q fun q r=>arg1 r fun r s=>arg1 s fun s t=>arg1 t fun t u=>arg1 u fun u v=>arg1 v fun v _=>addI a (I 1) fun a=>j [b,a,e,f,g,h,i,l,m,o,p,q,r,s,t,u,v] c d
def s375_2:KR:=fun l m q=>j [l,t,u,a,b,c,d,e,f,g,h,i,o,p,r,s] m q
def s375_3:KR:=fun l m q=>pickK h l fF fun h=>cB h (AV.ckOne u (newK [u] m q fun h=>forceN (Nat.succ q) fun m=>mR (s375_2 j a b c d e f g i o r s t l v w) (appK 1 h m p (.sl q 0 1 (.known 1))))) (j [p,v,w,a,b,c,d,e,f,g,i,o,r,s,t,l] m q)
def s375_4:KR:=fun l m q=>jR h m q (s375_3 j a b c d e f g h i o p r s l t u v) fun a=>neqI s l fun b=>a b m q
def s375_5:KR:=fun l m q=>jR h m q (s375_4 j a b c d e f g h i o p r l s t u) fun a=>a s m q
def s375_6:KR:=fun l m q=>jR h m q (s375_5 j a b c d e f g h i o p l r s t) fun a=>loadK m l fun b=>a b m q
def s375_7:KR:=fun l m q=>jR h m q (s375_6 j a b c d e f g h i l o p r s) fun a=>iaddrK 1 i l fun b=>a b m q
def s375_8:KR:=fun l m q=>jR h m q (s375_7 j a b c d e f g h l i o p r) fun a=>a o m q
def s375_9:KR:=fun l m q=>pickK o l fF fun o=>jR o m q (s375_8 j a b c d e f l o g h p r) fun a=>a i m q
def s375_10:KR:=fun l m q=>jR i m q (s375_9 j a b c d e l f g h i o p) fun a=>eqlI e l fun b=>a b m q
def s375_11:KR:=fun l m p=>jR h m p (s375_10 j a b c d l e f g h i o) fun a=>a f m p
def s375_12:KR:=fun l m o=>jR g m o (s375_11 j a b c l d e f g h i) fun a=>loadK m l fun b=>a b m o
def s375_13:KR:=fun i l m=>jR f l m (s375_12 j a b i c d e f g h) fun a=>iaddrK 1 b i fun b=>a b l m
def s375_14:KR:=fun h i l=>jR e i l (s375_13 j a h b c d e f g) fun a=>a c i l
def s375_15:KR:=fun g h i=>jR d h i (s375_14 j g a b c d e f) fun a=>loadK h g fun b=>a b h i
def s375_16:KR:=fun f g h=>jR d g h (s375_15 j a b c d e f) fun a=>faddrK 1 f fun b=>a b g h
def s375_17:KR:=fun e f g=>jR d f g (s375_16 j a b c d e) fun a=>nilK e (a e f g)
def s375_18:KQ:=fun e=>lssI c e fun e=>cB e (mJ (s375_1 j c) fun e=>nilK a (faddrK 0 a fun f=>loadK H f fun f=>iaddrK 4 f c fun f=>faddrK 0 f fun f=>loadK H f fun f=>eqlI f (I 0) fun f=>jR f H n (s375_17 e b c d f) fun b=>b a H n)) (J [b] H n)
def s375_19:KJ→KJ:=fun c d e f=>arg1 d fun d g=>arg1 g fun g h=>arg1 h fun _ h=>arg1 h fun _ h=>arg1 h fun _ h=>arg1 h fun _ h=>arg1 h fun _ h=>arg1 h fun _ h=>arg1 h fun _ h=>arg1 h fun _ h=>arg1 h fun _ h=>arg1 h fun _ h=>arg1 h fun _ h=>arg1 h fun _ h=>arg1 h fun _ h=>arg1 h fun _ h=>arg1 h fun _ _=>mQ (s375_18 c j e f a d g b) (lenSl b)
def s375(a:Nat):Hand:=fun _ _ b c d e=>arg1 b fun b f=>arg1 f fun f g=>arg0 g (mJ (s375_0 e) fun e=>iterN a (s375_19 e b f) [.nils,I 0,.bad,.bad,.bad,.bad,.bad,.bad,.bad,.bad,.bad,.bad,.bad,.bad,.bad,.bad,.bad] c d)
theorem h375:HO 375 s375:=hO 2 (T2 L0 (T2 L0 (T2 (T2 L0 (.one [5] (.one [5,6,23,24,25,26,27,28,29,30,31,34,35,36,37,38,39] (T2 (T2 L0 (T2 L0 L0)) (T2 (.one [5,23,24,25,26,27,28,29,30,31,34,35,36,37,38,39] (T2 L0 (T2 L0 L0))) L0))))) (T2 L0 L0)))) Tryz.func375 Tryz.call375 fun N F G l H n k=>by kernel_rfl
def s376_0:KJ:=fun a b c=>arg1 a fun a _=>faddrK 3 (.ptr m 0) fun d=>storeK 1 b d a fun _ a=>loadNK 4 a (.ptr m 0) fun b=>storeK 4 a (.ptr n 0) b fun _ a=>loadNK 4 a (.ptr n 0) fun b=>k b a c
def s376_1:KQ:=fun c=>lssI b c fun b=>cB b false (j [a] H n)
def s376_2:KJ→KJ:=fun _ a b c=>arg1 a fun a d=>arg1 d fun d _=>faddrK 3 (.ptr n 0) fun e=>loadK b e fun e=>mQ (s376_1 j b c a d) (lenSl e)
def s376(a:Nat):Hand:=fun _ _ b c d e=>arg1 b fun b f=>arg1 f fun f g=>arg0 g (newK [I 0,I 0,.str 0 0,.nils] c d fun c=>forceN (Nat.succ d) fun g=>forceN (Nat.add g 1) fun h=>nilK b (faddrK 0 b fun i=>loadK c i fun i=>nilK b (faddrK 1 b fun b=>loadK c b fun b=>iaddrK 1 b f fun b=>loadK c b fun b=>iaddrK 4 i b fun b=>loadNK 4 c b fun b=>forceN (Nat.add g 0) fun f=>newK [I 0,I 0,.str 0 0,.nils] c f fun g=>at_ g f fun g=>hput c f g fun c=>storeK 4 c (.ptr f 0) b fun _ b=>mJ (s376_0 e d f) fun c=>iterN a (s376_2 c f) [.nils,I 0] b h)))
theorem h376:HO 376 s376:=hO 2 (T2 L0 (T2 L0 (T2 L0 (T2 (T2 L0 (.one [6] (.one [6,7] (T2 (T2 L0 (T2 .stop L0)) .stop)))) (T2 L0 (T2 L0 L0)))))) Tryz.func376 Tryz.call376 fun N F G l H n k=>by kernel_rfl
def s380_0:KJ:=fun a b c=>arg1 a fun a _=>k a b c
def s380_1:KJ:=fun e f g=>arg1 e fun e _=>j [e,a,b,c,d] f g
def s380_2:KR:=fun g h i=>pickK c g fF fun c=>cB c (mJ (s380_1 J d e f g) fun c=>F 131 [a] h i fun a d e=>Ev.layK 0 4 true a [.str 0 0,.str 0 0,I 0,.nils] fun a=>newK a d e fun a=>forceN (Nat.succ e) fun d=>mR (fun a b d=>c [a] b d) (appK 4 a d b (.sl e 0 1 (.known 1)))) (j [b] h i)
def s380_3:KR:=fun f g h=>jR c g h (s380_2 F j J a b c d e f) fun a=>notB f fun b=>a b g h
def s380_4:KR:=fun e f g=>jR c f g (s380_3 F j J a b c d e) (F 225 [d,e] f g)
def s380_5:KR:=fun e f g=>jR d f g (s380_4 F j J a c d e) fun a=>a b f g
def s380_6:KJ→KJ:=fun c d e f=>arg1 d fun d g=>arg1 g fun _ g=>arg1 g fun _ g=>arg1 g fun _ g=>arg1 g fun _ _=>nilK a (faddrK 2 a fun g=>loadK e g fun g=>notB g fun g=>jR g e f (s380_5 F j c a b d g) fun b=>b a e f)
def s380(a:Nat):Hand:=fun b _ c d e f=>arg1 c fun c g=>arg1 g fun g h=>arg0 h (b 131 [c] d e fun d e h=>Ev.layK 0 4 true d [.str 0 0,.str 0 0,I 0,.nils] fun d=>newK d e h fun d=>forceN (Nat.succ h) fun e=>mJ (s380_0 f) fun f=>iterN a (s380_6 b f c g) [.sl h 0 1 (.known 1),.bad,.bad,.bad,.bad] d e)
theorem h380:HO 380 s380:=hO 2 (T2 L0 (T2 L0 (T2 (.one [5] (.one [5,15,16,17,18] (T2 (T2 L0 (T2 L0 L0)) (.one [5] L0)))) (T2 L0 L0)))) Tryz.func380 Tryz.call380 fun N F G l H n k=>by kernel_rfl
def s387(_:Nat):Hand:=fun _ _ a b c d=>arg1 a fun a e=>arg1 e fun e f=>arg1 f fun f g=>arg0 g (nilK a (faddrK 0 a fun g=>loadK b g fun g=>iaddrK 4 g e fun e=>faddrK 0 e fun e=>loadK b e fun e=>neqI e (I 0) fun e=>nilK a (faddrK 0 a fun a=>loadK b a fun a=>iaddrK 4 a f fun a=>faddrK 0 a fun a=>loadK b a fun a=>neqI a (I 0) fun a=>eqB .neq e a fun a=>cB a (cB e false (d f b c)) false)))
theorem h387:HO 387 s387:=hO 3 (T2 L0 (T2 L0 (T2 (T2 L0 (T2 (T2 (T2 L0 (T2 .stop L0)) (T2 L0 L0)) .stop)) .stop))) Tryz.func387 Tryz.call387 fun N F G l H n k=>by kernel_rfl
def u0_0:KH:=fun a b=>hput a n (.loop 76 [1,1,0,1,0] l) fun a=>k fT a b
def u0_1:KR:=fun e f g=>nilK c (faddrK 0 c fun h=>storeK 1 f h e fun _ e=>loadK f d fun d=>ifB (sameF 8 d a) (loadK f b fun a=>ifB (sameF 8 a c) (j [] e g)))
def u0 (_N:Nat) (_F:Orac) (_G:Orac) (nl:Nat) (le:LA) (la:LA) (H:Heap) (n:Nat) (k:KR):Bool:=ifB (Nat.blt nl 32768) (hput H nl .dead fun a=>arg1 le fun _ b=>arg1 b fun _ b=>arg1 b fun _ b=>arg1 b fun b c=>arg1 c fun c d=>arg1 d fun _ d=>arg1 d fun _ d=>arg1 d fun _ d=>arg1 d fun _ d=>arg1 d fun _ d=>arg1 d fun _ d=>arg1 d fun _ d=>arg1 d fun _ d=>arg1 d fun _ d=>arg1 d fun _ d=>arg1 d fun _ d=>arg1 d fun _ d=>arg1 d fun _ d=>arg1 d fun _ d=>arg1 d fun _ d=>arg1 d fun _ d=>arg1 d fun _ d=>arg1 d fun _ d=>arg1 d fun _ d=>arg1 d fun _ d=>arg1 d fun _ d=>arg1 d fun _ d=>arg1 d fun _ d=>arg1 d fun _ d=>arg1 d fun _ d=>arg1 d fun _ d=>arg1 d fun _ d=>arg1 d fun _ d=>arg1 d fun _ d=>arg1 d fun _ d=>arg1 d fun _ d=>arg1 d fun _ d=>arg1 d fun _ d=>arg1 d fun _ d=>arg1 d fun _ d=>arg1 d fun _ d=>arg1 d fun _ d=>arg1 d fun _ d=>arg1 d fun _ d=>arg1 d fun _ d=>arg1 d fun _ d=>arg1 d fun _ d=>arg1 d fun _ d=>arg1 d fun _ d=>arg1 d fun _ d=>arg1 d fun _ d=>arg1 d fun _ d=>arg1 d fun _ d=>arg0 d (arg1 la fun _ d=>arg1 d fun d e=>arg0 e (joinP (α:=KH) (u0_0 k le nl) fun e=>mJ (fun _ a b=>e a b) fun e=>forceN (Nat.add n 1) fun f=>loadK a b fun g=>nilK g (faddrK 1 g fun h=>loadK a h fun i=>loadK a b fun j=>nilK j (faddrK 1 j fun j=>loadK a j fun j=>nilK j (faddrK 0 j fun j=>loadK a j fun j=>loadK a c fun c=>AV.ckOne d (AV.ckOne c (Ev.layK 0 2 true (.agg [d,c]) [I 0,.nilp,.bool false] fun c=>Ev.layK 2 1 false fF c fun c=>forceN (Nat.add n 0) fun d=>Ev.layK 0 3 true (.agg c) [I 0,.nilp,.bool false] fun c=>newK c a d fun c=>at_ c d fun c=>hput a d c fun a=>mR (u0_1 e g h i b) (appK 3 a f j (.sl d 0 1 (.known 1)))))))))))
theorem g0 (N : Nat) : HandROK Tryz.prog 76 [1, 1, 0, 1, 0] (u0 N) := handROK_of (N := N) (C := calmC) (ne := 53) (xa := .leaf) (xb := (.one [] .leaf)) (root := bodyOf Tryz.f76) (g := (siteG (bodyOf Tryz.f76) [1, 1, 0, 1, 0]).1) (ps := (siteG (bodyOf Tryz.f76) [1, 1, 0, 1, 0]).2.1) (asn := (siteG (bodyOf Tryz.f76) [1, 1, 0, 1, 0]).2.2.1) (bd := (siteG (bodyOf Tryz.f76) [1, 1, 0, 1, 0]).2.2.2) (by rw [Tryz.func76]; rfl) (by kernel_rfl) fun F G nl le la H n k => (by kernel_rfl)
def u1_0:KH:=fun a b=>hput a n (.loop 119 [1,1,1,1,1,1,1,0,1,0] l) fun a=>k fT a b
def u1 (_N:Nat) (F:Orac) (G:Orac) (nl:Nat) (le:LA) (la:LA) (H:Heap) (n:Nat) (k:KR):Bool:=ifB (Nat.blt nl 32768) (hput H nl .dead fun a=>arg1 le fun _ b=>arg1 b fun _ b=>arg1 b fun _ b=>arg1 b fun _ b=>arg1 b fun _ b=>arg1 b fun _ b=>arg1 b fun b c=>arg1 c fun _ c=>arg1 c fun _ c=>arg1 c fun _ c=>arg1 c fun _ c=>arg1 c fun _ c=>arg1 c fun _ c=>arg1 c fun _ c=>arg1 c fun _ c=>arg1 c fun _ c=>arg1 c fun _ c=>arg1 c fun _ c=>arg1 c fun _ c=>arg1 c fun _ c=>arg1 c fun _ c=>arg1 c fun _ c=>arg1 c fun _ c=>arg1 c fun _ c=>arg1 c fun _ c=>arg1 c fun _ c=>arg1 c fun _ c=>arg1 c fun _ c=>arg1 c fun _ c=>arg1 c fun _ c=>arg1 c fun _ c=>arg1 c fun _ c=>arg1 c fun _ c=>arg1 c fun _ c=>arg1 c fun _ c=>arg1 c fun _ c=>arg1 c fun _ c=>arg1 c fun _ c=>arg1 c fun _ c=>arg1 c fun _ c=>arg1 c fun _ c=>arg1 c fun _ c=>arg1 c fun _ c=>arg1 c fun _ c=>arg1 c fun _ c=>arg1 c fun _ c=>arg1 c fun _ c=>arg1 c fun _ c=>arg1 c fun _ c=>arg1 c fun _ c=>arg1 c fun _ c=>arg1 c fun _ c=>arg1 c fun _ c=>arg1 c fun _ c=>arg1 c fun _ c=>arg1 c fun _ c=>arg1 c fun _ c=>arg1 c fun _ c=>arg1 c fun _ c=>arg1 c fun _ c=>arg1 c fun _ c=>arg1 c fun _ c=>arg1 c fun _ c=>arg1 c fun _ c=>arg1 c fun _ c=>arg1 c fun _ c=>arg1 c fun _ c=>arg1 c fun _ c=>arg1 c fun _ c=>arg1 c fun _ c=>arg1 c fun _ c=>arg1 c fun _ c=>arg1 c fun _ c=>arg1 c fun _ c=>arg1 c fun _ c=>arg1 c fun _ c=>arg1 c fun _ c=>arg1 c fun _ c=>arg1 c fun _ c=>arg1 c fun _ c=>arg1 c fun _ c=>arg1 c fun _ c=>arg1 c fun _ c=>arg1 c fun _ c=>arg1 c fun _ c=>arg1 c fun _ c=>arg1 c fun _ c=>arg1 c fun _ c=>arg1 c fun _ c=>arg1 c fun _ c=>arg1 c fun _ c=>arg1 c fun _ c=>arg1 c fun _ c=>arg1 c fun _ c=>arg1 c fun _ c=>arg1 c fun _ c=>arg1 c fun _ c=>arg1 c fun _ c=>arg1 c fun _ c=>arg1 c fun _ c=>arg1 c fun _ c=>arg1 c fun _ c=>arg1 c fun _ c=>arg1 c fun _ c=>arg1 c fun _ c=>arg1 c fun _ c=>arg1 c fun _ c=>arg1 c fun _ c=>arg1 c fun _ c=>arg1 c fun _ c=>arg1 c fun _ c=>arg1 c fun _ c=>arg1 c fun _ c=>arg1 c fun _ c=>arg1 c fun _ c=>arg1 c fun _ c=>arg1 c fun _ c=>arg1 c fun _ c=>arg1 c fun _ c=>arg1 c fun _ c=>arg1 c fun _ c=>arg1 c fun _ c=>arg1 c fun _ c=>arg1 c fun _ c=>arg1 c fun _ c=>arg1 c fun _ c=>arg1 c fun _ c=>arg1 c fun _ c=>arg1 c fun _ c=>arg1 c fun _ c=>arg1 c fun _ c=>arg1 c fun _ c=>arg1 c fun _ c=>arg1 c fun _ c=>arg1 c fun _ c=>arg1 c fun _ c=>arg1 c fun _ c=>arg1 c fun _ c=>arg1 c fun _ c=>arg1 c fun _ c=>arg1 c fun _ c=>arg1 c fun _ c=>arg1 c fun _ c=>arg1 c fun _ c=>arg1 c fun _ c=>arg1 c fun _ c=>arg1 c fun _ c=>arg1 c fun _ c=>arg1 c fun _ c=>arg1 c fun _ c=>arg1 c fun _ c=>arg1 c fun _ c=>arg1 c fun _ c=>arg1 c fun _ c=>arg1 c fun _ c=>arg1 c fun _ c=>arg1 c fun _ c=>arg1 c fun _ c=>arg1 c fun _ c=>arg1 c fun _ c=>arg1 c fun _ c=>arg1 c fun _ c=>arg1 c fun _ c=>arg1 c fun _ c=>arg1 c fun _ c=>arg1 c fun _ c=>arg1 c fun _ c=>arg1 c fun _ c=>arg1 c fun _ c=>arg1 c fun _ c=>arg1 c fun _ c=>arg1 c fun _ c=>arg1 c fun _ c=>arg1 c fun _ c=>arg1 c fun _ c=>arg1 c fun _ c=>arg1 c fun _ c=>arg1 c fun _ c=>arg1 c fun _ c=>arg1 c fun _ c=>arg1 c fun _ c=>arg1 c fun _ c=>arg1 c fun _ c=>arg1 c fun _ c=>arg1 c fun _ c=>arg1 c fun _ c=>arg1 c fun _ c=>arg1 c fun _ c=>arg1 c fun _ c=>arg1 c fun _ c=>arg1 c fun _ c=>arg1 c fun _ c=>arg1 c fun _ c=>arg1 c fun _ c=>arg1 c fun _ c=>arg1 c fun _ c=>arg1 c fun _ c=>arg1 c fun _ c=>arg1 c fun _ c=>arg1 c fun _ c=>arg1 c fun _ c=>arg1 c fun _ c=>arg1 c fun _ c=>arg1 c fun _ c=>arg1 c fun _ c=>arg1 c fun _ c=>arg1 c fun _ c=>arg1 c fun _ c=>arg1 c fun _ c=>arg0 c (arg1 la fun c d=>arg0 d (joinP (α:=KH) (u1_0 k le nl) fun d=>mJ (fun _ a b=>d a b) fun d=>loadK a b fun b=>nilK c (faddrK 0 c fun c=>loadK a c fun c=>callV F G b [c] a n fun _ a b=>d [] a b))))
theorem g1 (N : Nat) : HandROK Tryz.prog 119 [1, 1, 1, 1, 1, 1, 1, 0, 1, 0] (u1 N) := handROK_of (N := N) (C := calmC) (ne := 209) (xa := .leaf) (xb := (.one [] .leaf)) (root := bodyOf Tryz.f119) (g := (siteG (bodyOf Tryz.f119) [1, 1, 1, 1, 1, 1, 1, 0, 1, 0]).1) (ps := (siteG (bodyOf Tryz.f119) [1, 1, 1, 1, 1, 1, 1, 0, 1, 0]).2.1) (asn := (siteG (bodyOf Tryz.f119) [1, 1, 1, 1, 1, 1, 1, 0, 1, 0]).2.2.1) (bd := (siteG (bodyOf Tryz.f119) [1, 1, 1, 1, 1, 1, 1, 0, 1, 0]).2.2.2) (by rw [Tryz.func119]; rfl) (by kernel_rfl) fun F G nl le la H n k => (by kernel_rfl)
end
end Ev
