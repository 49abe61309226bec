/- A part of the proof that GcRoom returns true: text Sh1. -/
import Derived.Test.YtfhilpdbmfbbdaaGreatDoorCalm
namespace Ev
open Go Go.Proofs
noncomputable section
variable (F G : Orac) (j J : KJ) (H K : Heap) (k : KR) (q : KQ) (kh : KH) (l : LA) (n m N n1 n2 : Nat) (a b c d e f g h i o p r s t u v w x y z A B C D E L M O P Q R S T U V W X Y Z : AV)
def s3_0:KR:=fun b c d=>pickK a b fF fun a=>k a c d
def s3_1:KR:=fun b c d=>pickK a b fF fun a=>jR a c d (s3_0 k a) (F 15 [] c d)
def s3_2:KR:=fun b c d=>jR a c d (s3_1 F k a) fun a=>eqlI b (I 0) fun b=>a b c d
def s3_3:KR:=fun b c d=>jR a c d (s3_2 F k a) fun a=>loadK c b fun b=>a b c d
def s3_4:KR:=fun b c d=>pickK a b fF fun a=>jR a c d (s3_3 F k a) fun a=>faddrK 1 (.ptr n 0) fun b=>a b c d
def s3_5:KR:=fun b c d=>jR a c d (s3_4 F k n a) fun a=>eqlI b (I 1) fun b=>a b c d
def s3_6:KR:=fun b c d=>jR a c d (s3_5 F k n a) fun a=>loadK c b fun b=>a b c d
def s3_7:KR:=fun b c d=>pickK a b fF fun a=>jR a c d (s3_6 F k n a) fun a=>faddrK 0 (.ptr n 0) fun b=>a b c d
def s3_8:KR:=fun b c d=>jR a c d (s3_7 F k n a) fun a=>eqlI b (I 0) fun b=>a b c d
def s3_9:KJ:=fun a b c=>arg1 a fun a _=>F 12 [a,I 10] b c fun b c d=>extK 0 b fun e=>extK 1 b fun _=>F 7 [a] c d fun b c d=>F 13 [b,e] c d fun b c d=>extK 0 b fun e=>extK 1 b fun b=>newK [I 0,I 0,.str 0 0,.nils] c d fun c=>forceN (Nat.succ d) fun f=>storeK 4 c (.ptr d 0) e fun _ c=>F 14 [a,I 0] c f fun a c e=>strB .eql a (.str 4 1701736292) fun a=>jR a c e (s3_8 F k d a) fun a=>a b c e
def s3_10:KJ:=fun b c d=>arg1 b fun b e=>arg1 e fun e f=>arg1 f fun f g=>arg1 g fun g h=>arg1 h fun h i=>arg1 i fun i l=>arg1 l fun l m=>arg1 m fun m o=>arg1 o fun o _=>addI a (I 1) fun a=>j [b,a,e,f,g,h,i,l,m,o] c d
def s3_11:KJ:=fun b c d=>arg1 b fun b e=>arg1 e fun e f=>arg1 f fun f g=>arg1 g fun g h=>arg1 h fun h i=>arg1 i fun i l=>arg1 l fun l m=>arg1 m fun m o=>arg1 o fun o _=>gtrI a (I 20000) fun a=>cB a false (j [b,e,f,g,h,i,l,m,o] c d)
def s3_12:KR:=fun l m o=>pickK d fT l fun d=>cB d false (j [a,b,c,e,f,g,h,i,l] m o)
def s3_13:KR:=fun i l m=>jRn d l m (s3_12 j a b c d e f g h i) fun a=>gtrI g i fun b=>a b l m
def s3_14:KR:=fun h i l=>jRn d i l (s3_13 j a b c d e f g h) fun a=>addI h (I 10) fun b=>a b i l
def s3_15:KR:=fun h i l=>jRn d i l (s3_14 j a b c d e f h) fun a=>a g i l
def s3_16:KR:=fun g h i=>jRn d h i (s3_15 j a b c d e g f) (F 8 [g] h i)
def s3_17:KR:=fun f g h=>jRn d g h (s3_16 F j a b c d f e) (F 7 [f] g h)
def s3_18:KR:=fun e f g=>pickK b fT e fun b=>jRn b f g (s3_17 F j a c e b d) fun b=>b a f g
def s3_19:KR:=fun d e f=>jRn b e f (s3_18 F j a b d c) fun a=>nilPE .eql d fun b=>a b e f
def s3_20:KQ:=fun l=>gtrI l (I 0) fun l=>cB l (mJ (s3_10 J b) fun j=>F 10 [a,I 0] H n fun _ l m=>mJ (s3_11 j b) fun j=>convI .i64 p fun p=>remI p (I 60) fun p=>addI p (I 20) fun p=>remI b p fun b=>eqlI b (I 0) fun b=>cB b (F 11 [a] l m fun a b c=>extK 0 a fun d=>extK 1 a fun a=>neqI a (I 0) fun a=>jRn a b c (s3_19 F j d a r) fun a=>a d b c) (j [a,c,d,e,f,g,h,i,o] l m)) (j [a] H n)
def s3_21:KJ→KJ:=fun c d e f=>arg1 d fun d g=>arg1 g fun g h=>arg1 h fun h i=>arg1 i fun i l=>arg1 l fun l m=>arg1 m fun m o=>arg1 o fun o p=>arg1 p fun p q=>arg1 q fun q r=>arg1 r fun r _=>F 9 [d] e f fun e f s=>mQ (s3_20 F j c f s d g h i l m o p q r a b) (lenSl e)
def s3_22:KR:=fun d e f=>pickK c fT d fun c=>cB c false (F 7 [b] e f fun c d e=>F 8 [c] d e fun c d e=>mJ (s3_9 F k) fun f=>iterN n (s3_21 F f a c) [b,I 1,.bad,.bad,.bad,.bad,.bad,.bad,.bad,.bad] d e)
def s3_23:KR:=fun d e f=>jRn c e f (s3_22 F k n a b c) fun a=>neqI d (I 0) fun b=>a b e f
def s3(a:Nat):Hand:=fun b _ c d e f=>arg1 c fun c g=>arg1 g fun g h=>arg0 h (convI .i64 c fun c=>b 5 [c] d e fun c d e=>strB .add (.str 68 7265465442272826924579059259703101728566391765415251968627846532335924723539593864417888146329902865822517554256611754794577186117982126077428023175149732814352236) c fun c=>strB .add c (.str 5 431348850813) fun c=>b 4 [c] d e fun c d e=>extK 0 c fun h=>extK 1 c fun c=>newK [.nils,.nils,I 0,I 0] d e fun d=>forceN (Nat.succ e) fun i=>storeK 4 d (.ptr e 0) h fun _ d=>loadNK 4 d (.ptr e 0) fun e=>b 6 [e] d i fun d e h=>extK 0 d fun i=>extK 1 d fun d=>notB c fun c=>jRn c e h (s3_23 b f a g i c) fun a=>a d e h)
theorem h3:HO 3 s3:=hO 2 (T2 L0 (T2 L0 (T2 L0 (T2 (T2 L0 (T2 .stop L0)) (T2 L0 (T2 (T2 L0 (.one [7] (.one [7,10,63,64,67,68,69,70,71,72] (T2 (T2 L0 (T2 L0 L0)) (T2 (.one [7,63,64,67,68,69,70,71,72] (T2 L0 (.join [7,63,64,67,68,69,70,71,72] (T2 L0 (T2 (T2 L0 (T2 (T2 L0 (T2 .stop L0)) L0)) L0)) (T2 L0 (T2 .stop L0))))) L0))))) (T2 L0 (T2 L0 (T2 L0 L0))))))))) Tryz.func3 Tryz.call3 fun N F G l H n k=>by kernel_rfl
def s4_0:KQ:=fun c=>pickK b c fF fun b=>storeK 4 H (.ptr n 0) a fun _ c=>loadNK 4 H (.ptr m 0) fun d=>ifB (sameF 8 d a) (loadNK 4 c (.ptr n 0) fun a=>AV.ckOk a (AV.ckOk b (k (.tup [a,b]) c N)))
def s4_1:KR:=fun c d e=>jQ b (s4_0 d k n m e a b) (notB c)
def s4_2:KQ:=fun c=>jR b H N (s4_1 k n m a b) (F 18 [c] H N)
def s4_3:KQ:=fun b=>gtrI b (I 1500) fun b=>cB b false (F 16 [a] H m fun a b c=>extK 0 a fun d=>extK 1 a fun a=>newK [.str 0 0,.str 0 0,I 0,.nils] b c fun b=>forceN (Nat.succ c) fun e=>storeK 4 b (.ptr c 0) d fun _ b=>neqI a (I 0) fun a=>cB a false (loadNK 4 b (.ptr c 0) fun a=>AV.ckOne (.str 1 88) (AV.ckOne (.str 1 89) (AV.ckOne (.str 1 90) (AV.ckOne (.str 1 70) (newK [.str 1 88,.str 1 89,.str 1 90,.str 1 70] b e fun b=>forceN (Nat.succ e) fun c=>F 17 [a,.sl e 0 4 (.known 4)] b c fun a b c=>extK 0 a fun d=>extK 1 a fun a=>newK [.nils,.nils,I 0,I 0] b c fun b=>forceN (Nat.succ c) fun e=>storeK 4 b (.ptr c 0) d fun _ b=>loadNK 4 b (.ptr c 0) fun d=>eqlI a (I 0) fun a=>jQ a (s4_2 F b k n c e d a) (loadNK 4 b (.ptr c 0))))))))
def s4(_:Nat):Hand:=fun a _ b c d e=>arg1 b fun b f=>arg0 f (newK [.nils,.nils,I 0,I 0] c d fun c=>forceN (Nat.succ d) fun f=>mQ (s4_3 a c e d f b) (lenStr b))
theorem h4:HO 4 s4:=hO 1 (T2 L0 (T2 (T2 L0 (T2 .stop L0)) (T2 L0 (T2 (T2 L0 (T2 .stop L0)) (T2 L0 (T2 L0 L0)))))) Tryz.func4 Tryz.call4 fun N F G l H n k=>by kernel_rfl
def s5(_:Nat):Hand:=fun a _ b c d e=>arg1 b fun b f=>arg0 f (a 19 [b] c d e)
theorem h5:HO 5 s5:=hO 1 (T2 L0 (T2 L0 L0)) Tryz.func5 Tryz.call5 fun N F G l H n k=>by kernel_rfl
def s6_0:KJ:=fun _ d e=>faddrK 3 a fun a=>loadK d a fun a=>AV.ckOne a (AV.ckOne c (F 24 [b,.agg [a,c]] d e fun _ a c=>AV.ckOk b (AV.ckOk (I 0) (k (.tup [b,I 0]) a c))))
def s6_1:KJ:=fun _ b c=>addI a (I 1) fun a=>j [a] b c
def s6_2:KR:=fun b c d=>nilK a (faddrK 7 a fun a=>storeK 1 c a b fun _ a=>j [] a d)
def s6_3:KJ→KJ:=fun d e f g=>arg1 e fun e _=>lssI e c fun c=>cB c (mJ (s6_1 d e) fun c=>nilK b (faddrK 0 b fun b=>loadK f b fun b=>iaddrK 1 b e fun b=>storeK 1 f b e fun _ b=>nilK a (faddrK 7 a fun d=>loadK b d fun d=>AV.ckOne e (newK [e] b g fun b=>forceN (Nat.succ g) fun e=>mR (s6_2 c a) (appK 1 b e d (.sl g 0 1 (.known 1))))))) (j [] f g)
def s6(a:Nat):Hand:=fun b _ c d e f=>arg1 c fun c g=>arg0 g (boxE c d e fun c d=>forceN (Nat.succ e) fun e=>loadNK 4 d c fun g=>b 20 [g] d e fun d e g=>notB d fun d=>cB d false (forceN (Nat.add g 2) fun d=>loadNK 4 e c fun h=>b 21 [h] e d fun d h i=>forceN (Nat.add g 0) fun j=>mkmapE h j fun l m=>at_ m j fun m=>faddrK 2 c fun o=>loadK h o fun p=>b 22 [p] h i fun i q r=>Ev.layK 0 4 true d [.nils,.nils,I 0,I 0,.nilm,.nilp,.nils,.nils,I 0] fun d=>Ev.layK 4 1 false l d fun d=>Ev.layK 5 1 false i d fun d=>forceN (Nat.add g 1) fun g=>boxE (.agg d) q g fun d i=>at_ i g fun i=>at_ h j fun h=>Blk.ckDead h (at_ q j fun h=>Blk.ckDead h (loadK e o fun e=>ifB (sameF 8 e p) (hput q j m fun e=>hput e g i fun e=>b 23 [d] e r fun e g h=>faddrK 2 c fun i=>loadK g i fun i=>mJ (s6_0 b f c d e) fun b=>iterN a (s6_3 b d e i) [I 0] g h)))))
theorem h6:HO 6 s6:=hO 1 (T2 L0 (T2 (T2 L0 (T2 .stop L0)) (T2 L0 (T2 L0 (T2 (T2 L0 (.one [] (.one [22] (T2 L0 (T2 (T2 L0 L0) (T2 (.one [] (T2 L0 (T2 L0 L0))) L0)))))) (T2 L0 (T2 L0 L0))))))) Tryz.func6 Tryz.call6 fun N F G l H n k=>by kernel_rfl
def s7(_:Nat):Hand:=fun a _ b c d e=>arg1 b fun b f=>arg0 f (a 25 [b] c d fun c d f=>notB c fun c=>cB c false (nilK b (faddrK 5 b fun b=>loadK d b fun b=>nilK b (faddrK 0 b fun b=>loadK d b fun b=>a 26 [b] d f e))))
theorem h7:HO 7 s7:=hO 1 (T2 L0 (T2 (T2 L0 (T2 .stop L0)) (T2 L0 L0))) Tryz.func7 Tryz.call7 fun N F G l H n k=>by kernel_rfl
def s8(_:Nat):Hand:=fun a _ b c d e=>arg1 b fun b f=>arg0 f (a 27 [b] c d fun a c d=>notB a fun a=>cB a false (nilK b (faddrK 1 b fun a=>loadK c a fun a=>mQ (fun a=>e a c d) (lenSl a))))
theorem h8:HO 8 s8:=hO 1 (T2 L0 (T2 (T2 L0 (T2 .stop L0)) (T2 L0 L0))) Tryz.func8 Tryz.call8 fun N F G l H n k=>by kernel_rfl
def s9_0:KJ:=fun a b c=>arg1 a fun a _=>k a b c
def s9_1:KJ:=fun b c d=>arg1 b fun b _=>addI a (I 1) fun a=>j [b,a] c d
def s9_2:KJ→KJ:=fun c d e f=>arg1 d fun d g=>arg1 g fun g _=>lssI g b fun b=>cB b (mJ (s9_1 c g) fun b=>F 14 [a,g] e f fun a c e=>strB .eql a (.str 5 521375147378) fun a=>cB a (AV.ckOne g (newK [g] c e fun a=>forceN (Nat.succ e) fun c=>mR (fun a c d=>b [a] c d) (appK 1 a c d (.sl e 0 1 (.known 1))))) (b [d] c e)) (j [d] e f)
def s9(a:Nat):Hand:=fun b _ c d e f=>arg1 c fun c g=>arg0 g (b 28 [c] d e fun d e g=>mJ (s9_0 f) fun f=>iterN a (s9_2 b f c d) [.nils,I 0] e g)
theorem h9:HO 9 s9:=hO 1 (T2 L0 (T2 L0 (T2 (T2 L0 (.one [3] (.one [3,7] (T2 L0 (T2 (T2 L0 L0) (T2 (.one [3] (T2 L0 (T2 L0 (T2 L0 L0)))) L0)))))) (T2 L0 L0)))) Tryz.func9 Tryz.call9 fun N F G l H n k=>by kernel_rfl
def s10_0:KJ:=fun _ b c=>F 32 [a] b c fun a b c=>notB a fun a=>cB a false (AV.ckOk fT (AV.ckOk (I 0) (k (.tup [.bool true,I 0]) b c)))
def s10_1:KR:=fun b c d=>nilK a (faddrK 0 a fun e=>storeK 1 c e b fun _ b=>faddrK 0 (.ptr n 0) fun c=>loadK b c fun c=>nilK a (faddrK 1 a fun a=>storeK 1 b a c fun _ a=>j [] a d))
def s10_2:KQ:=fun e=>fldK 0 e fun e=>loadNK 6 K (.ptr N 0) fun f=>faddrK 0 (.ptr n 0) fun g=>faddrK 1 g fun g=>loadK K g fun h=>AV.ckOne a (AV.ckOne b (Ev.layK 2 6 true f [a,b,.str 0 0,.nils,.str 0 0,I 0,.nils,.nils,.nilp] fun i=>Ev.layK 8 1 false h i fun i=>forceN (Nat.add m 0) fun j=>boxE (.agg i) K j fun i l=>at_ l j fun l=>faddrK 0 (.ptr n 0) fun o=>faddrK 0 o fun o=>loadK K o fun p=>hput K j l fun l=>callV F G e [i,p] l n1 fun e i l=>forceN (Nat.add m 1) fun m=>newK [I 0,I 0] i m fun q=>at_ q m fun q=>hput i m q fun q=>storeK 2 q (.ptr m 0) e fun _ e=>loadK H c fun c=>ifB (sameF 8 c d) (loadNK 6 H (.ptr N 0) fun c=>ifB (sameF 8 c f) (loadK H g fun c=>ifB (sameF 8 c h) (at_ K j fun c=>Blk.ckDead c (loadK H o fun c=>ifB (sameF 8 c p) (at_ K m fun c=>Blk.ckDead c (at_ i m fun c=>Blk.ckDead c (mJ (s10_0 F k a) fun a=>faddrK 0 (.ptr m 0) fun c=>loadK e c fun c=>neqI c (.int .i64 (.negSucc 0)) fun c=>cB c (forceN (Nat.add l 1) fun c=>nilK b (faddrK 0 b fun d=>loadK e d fun d=>loadNK 3 e (.ptr n 0) fun f=>forceN (Nat.add l 0) fun g=>Ev.layK 0 3 true f [I 0,.nilp,.bool false] fun f=>newK f e g fun f=>at_ f g fun f=>hput e g f fun e=>mR (s10_1 a m b) (appK 3 e c d (.sl g 0 1 (.known 1))))) (faddrK 1 (.ptr m 0) fun b=>loadK e b fun b=>neqI b (.int .i64 (.negSucc 0)) fun b=>cB b false (a [] e l)))))))))))
def s10_3:KQ:=fun c=>nilK b (faddrK 0 b fun d=>storeK 1 H d c fun _ c=>faddrK 2 (.ptr m 0) fun d=>loadK c d fun d=>cB d false (forceN (Nat.add n 1) fun d=>nilK a (faddrK 0 a fun e=>faddrK 0 e fun e=>loadK c e fun e=>faddrK 0 (.ptr m 0) fun f=>faddrK 0 f fun f=>loadK c f fun f=>iaddrK 6 e f fun e=>loadNK 6 c e fun e=>forceN (Nat.add n 0) fun f=>newK [.str 0 0,.nils,.str 0 0,I 0,.nils,.nils] c f fun g=>at_ g f fun g=>hput c f g fun c=>storeK 6 c (.ptr f 0) e fun _ c=>forceN (Nat.add d 2) fun e=>F 30 [] c e fun e g h=>faddrK 0 (.ptr f 0) fun i=>loadK g i fun j=>mQ (s10_2 F G c g k m d f h a b i j) fun a=>AV.ckStr j fun _ _=>lookM [] (.agg [.nilf]) false e j g a)))
def s10_4:KQ:=fun d=>subI d (I 1) fun d=>mQ (s10_3 F G H k n m a b) (sliceK 3 c none (some d))
def s10_5:KQ:=fun d=>subI d (I 1) fun d=>iaddrK 3 c d fun c=>loadNK 3 H c fun c=>forceN (Nat.add n 0) fun d=>newK [I 0,.nilp,.bool false] H d fun e=>at_ e d fun e=>hput H d e fun e=>storeK 3 e (.ptr d 0) c fun _ c=>nilK b (faddrK 0 b fun e=>loadK c e fun e=>nilK b (faddrK 0 b fun f=>loadK c f fun f=>mQ (s10_4 F G c k m d a b e) (lenSl f)))
def s10(_:Nat):Hand:=fun a b c d e f=>arg1 c fun c g=>arg1 g fun g h=>arg0 h (a 29 [c,g] d e fun d e h=>neqI d (I 0) fun d=>cB d false (a 14 [c,g] e h fun d e h=>strB .neq d (.str 5 521375147378) fun d=>cB d false (nilK c (faddrK 8 c fun d=>loadK e d fun d=>addI d (I 1) fun d=>nilK c (faddrK 8 c fun i=>storeK 1 e i d fun _ d=>nilK c (faddrK 6 c fun e=>loadK d e fun e=>iaddrK 1 e g fun e=>loadK d e fun e=>nilK e (faddrK 1 e fun g=>storeK 1 d g (.int .i64 (.negSucc 0)) fun _ d=>forceN (Nat.add h 1) fun g=>nilK e (faddrK 0 e fun i=>loadK d i fun i=>nilK e (faddrK 0 e fun j=>loadK d j fun j=>mQ (s10_5 a b d f h g c e i) (lenSl j))))))))))
theorem h10:HO 10 s10:=hO 2 (T2 L0 (T2 (T2 L0 (T2 L0 (T2 .stop L0))) (T2 (T2 L0 (T2 .stop L0)) (T2 L0 (T2 L0 (T2 L0 (T2 L0 (T2 L0 (T2 (T2 L0 (T2 .stop L0)) (T2 L0 (T2 L0 (T2 (.one [] (T2 L0 (T2 (T2 L0 L0) (T2 L0 (T2 .stop L0))))) (T2 (T2 L0 (T2 .stop L0)) (T2 L0 L0)))))))))))))) Tryz.func10 Tryz.call10 fun N F G l H n k=>by kernel_rfl
def s11(_:Nat):Hand:=fun a _ b c d e=>arg1 b fun b f=>arg0 f (a 28 [b] c d fun c d f=>eqlI c (I 0) fun c=>cB c false (a 34 [b] d f fun c d f=>a 33 [b,c] d f fun a b c=>extK 0 a fun d=>extK 1 a fun a=>AV.ckOk d (AV.ckOk a (e (.tup [d,a]) b c))))
theorem h11:HO 11 s11:=hO 1 (T2 L0 (T2 (T2 L0 (T2 .stop L0)) (T2 L0 L0))) Tryz.func11 Tryz.call11 fun N F G l H n k=>by kernel_rfl
def s12_0:KJ:=fun _ c d=>F 35 [a,b] c d fun a b c=>AV.ckOk a (AV.ckOk (I 0) (k (.tup [a,I 0]) b c))
def s12_1:KR:=fun b c d=>pickK a fT b fun a=>cB a false (j [] c d)
def s12_2:KR:=fun c d e=>jRn a d e (s12_1 j a) fun a=>geqI b c fun b=>a b d e
def s12_3:KR:=fun c d e=>jRn a d e (s12_2 j a b) fun a=>loadK d c fun b=>a b d e
def s12_4:KR:=fun c d e=>jRn a d e (s12_3 j a b) fun a=>faddrK 2 c fun b=>a b d e
def s12_5:KR:=fun c d e=>jRn a d e (s12_4 j a b) fun a=>faddrK 0 c fun b=>a b d e
def s12_6:KR:=fun c d e=>jRn a d e (s12_5 j a b) fun a=>nilK c (a c d e)
def s12_7:KR:=fun c d e=>jRn b d e (s12_6 j b c) fun b=>b a d e
def s12(_:Nat):Hand:=fun a _ b c d e=>arg1 b fun b f=>arg1 f fun f g=>arg0 g (mJ (s12_0 a e b f) fun e=>a 25 [b] c d fun a c d=>notB a fun a=>cB a false (lssI f (I 0) fun a=>jRn a c d (s12_7 e b a) fun a=>a f c d))
theorem h12:HO 12 s12:=hO 2 (T2 L0 (T2 (.one [] (T2 L0 (T2 .stop (T2 L0 (T2 .stop L0))))) (T2 L0 L0))) Tryz.func12 Tryz.call12 fun N F G l H n k=>by kernel_rfl
def s13(_:Nat):Hand:=fun a _ b c d e=>arg1 b fun b f=>arg1 f fun f g=>arg0 g (newK [I 0,I 0,.str 0 0,.nils] c d fun c=>forceN (Nat.succ d) fun g=>AV.ckOne f (newK [f] c g fun c=>forceN (Nat.succ g) fun h=>a 36 [b,.sl g 0 1 (.known 1)] c h fun c g h=>neqI c (I 0) fun c=>cB c false (a 38 [b,f] g h fun c f g=>a 37 [b,c] f g fun a b c=>storeK 4 b (.ptr d 0) a fun _ a=>loadNK 4 a (.ptr d 0) fun b=>AV.ckOk b (AV.ckOk (I 0) (e (.tup [b,I 0]) a c)))))
theorem h13:HO 13 s13:=hO 2 (T2 L0 (T2 (T2 L0 (T2 L0 (T2 .stop L0))) (T2 L0 L0))) Tryz.func13 Tryz.call13 fun N F G l H n k=>by kernel_rfl
def s14_0:KJ:=fun _ a b=>k (.str 5 521375147378) a b
def s14_1:KQ:=fun c=>eqlI c (I 0) fun c=>cB c (k (.str 4 1701736292) H n) (F 40 [a,b] H n fun c d e=>strB .eql c (.str 6 111546465216611) fun c=>cB c false (F 41 [a,b] d e fun a b c=>cB a false (j [] b c)))
def s14(_:Nat):Hand:=fun a _ b c d e=>arg1 b fun b f=>arg1 f fun f g=>arg0 g (a 39 [b,f] c d fun c d g=>notB c fun c=>cB c false (nilK b (faddrK 6 b fun c=>loadK d c fun c=>iaddrK 1 c f fun c=>loadK d c fun c=>mJ (s14_0 e) fun f=>nilK c (faddrK 2 c fun h=>loadK d h fun h=>neqI h (.int .i64 (.negSucc 0)) fun h=>cB h false (nilK c (faddrK 0 c fun h=>loadK d h fun h=>mQ (s14_1 a f d e g b c) (lenSl h)))))))
theorem h14:HO 14 s14:=hO 2 (T2 L0 (T2 (T2 L0 (T2 .stop L0)) (T2 (T2 L0 (.one [] (T2 L0 (T2 .stop (T2 L0 (T2 (T2 L0 L0) (T2 L0 (T2 .stop (T2 L0 (T2 .stop L0)))))))))) (T2 L0 L0)))) Tryz.func14 Tryz.call14 fun N F G l H n k=>by kernel_rfl
def s15_0:KR:=fun b c d=>pickK a b fF fun a=>k a c d
def s15_1:KR:=fun c d e=>jR a d e (s15_0 k a) fun a=>eqlI b c fun b=>a b d e
def s15_2:KR:=fun c d e=>jR a d e (s15_1 k a b) (F 45 [c] d e)
def s15_3:KR:=fun c d e=>jR a d e (s15_2 F k a c) fun a=>a b d e
def s15_4:KR:=fun c d e=>jR a d e (s15_3 F k a b) (F 45 [c] d e)
def s15_5:KR:=fun d e f=>pickK a d fF fun a=>jR a e f (s15_4 F k a c) fun a=>a b e f
def s15_6:KR:=fun d e f=>jR a e f (s15_5 F k a b c) fun a=>strB .eql d (.str 4 1701736292) fun b=>a b e f
def s15_7:KR:=fun d e f=>jR a e f (s15_6 F k a b c) (F 14 [d,I 0] e f)
def s15_8:KR:=fun d e f=>pickK a d fF fun a=>jR a e f (s15_7 F k a b c) fun a=>a b e f
def s15_9:KR:=fun d e f=>jR a e f (s15_8 F k a b c) fun a=>eqlI d (I 0) fun b=>a b e f
def s15_10:KR:=fun e f g=>pickK d e fF fun d=>jR d f g (s15_9 F k d a c) fun a=>a b f g
def s15_11:KR:=fun e f g=>jR d f g (s15_10 F k a b c d) fun a=>geqI e (I 22) fun b=>a b f g
def s15_12:KR:=fun e f g=>jR d f g (s15_11 F k a b c d) fun a=>mQ (fun b=>a b f g) (lenSl e)
def s15_13:KR:=fun f g h=>pickK e f fF fun e=>jR e g h (s15_12 F k a c d e) fun a=>a b g h
def s15_14:KR:=fun f g h=>jR e g h (s15_13 F k a b c d e) fun a=>eqlI f (I 0) fun b=>a b g h
def s15_15:KR:=fun g h i=>pickK f g fF fun f=>jR f h i (s15_14 F k a b c d f) fun a=>a e h i
def s15_16:KR:=fun g h i=>jR f h i (s15_15 F k a b c d e f) fun a=>eqlI g (I 0) fun b=>a b h i
def s15_17:KR:=fun h i j=>pickK g h fF fun g=>jR g i j (s15_16 F k a b c d f g) fun a=>a e i j
def s15_18:KR:=fun h i j=>jR g i j (s15_17 F k a b c d e f g) fun a=>eqlI h (I 0) fun b=>a b i j
def s15_19:KR:=fun h i j=>pickK f fT h fun f=>cB f false (F 43 [c] i j fun f h i=>extK 0 f fun j=>extK 1 f fun f=>gtrI a (I 0) fun a=>jR a h i (s15_18 F k c d e g j f a) fun a=>a b h i)
def s15_20:KR:=fun h i j=>jRn f i j (s15_19 F k a b c d e f g) fun a=>nilPE .eql h fun b=>a b i j
def s15_21:KR:=fun h i j=>jRn f i j (s15_20 F k a b c d e f g) (F 7 [h] i j)
def s15_22:KR:=fun h i j=>pickK f fT h fun f=>jRn f i j (s15_21 F k a b c d e f g) fun a=>a c i j
def s15_23:KR:=fun h i j=>jRn f i j (s15_22 F k a b c d e f g) fun a=>nilPE .eql h fun b=>a b i j
def s15_24:KR:=fun d e f=>pickK b fT d fun b=>cB b false (F 43 [c] e f fun b d e=>extK 0 b fun f=>extK 1 b fun b=>F 11 [c] d e fun d e g=>extK 0 d fun h=>extK 1 d fun d=>F 44 [a] e g fun a e g=>extK 0 a fun i=>extK 1 a fun a=>neqI d (I 0) fun d=>jRn d e g (s15_23 F k f b h i a d c) fun a=>a h e g)
def s15_25:KR:=fun d e f=>jRn b e f (s15_24 F k a b c) fun a=>nilPE .eql d fun b=>a b e f
def s15(_:Nat):Hand:=fun a _ b c d e=>arg0 b (AV.ckOne (.int .u8 (.ofNat 0)) (AV.ckOne (.int .u8 (.ofNat 0)) (AV.ckOne (.int .u8 (.ofNat 0)) (AV.ckOne (.int .u8 (.ofNat 0)) (AV.ckOne (.int .u8 (.ofNat 0)) (AV.ckOne (.int .u8 (.ofNat 0)) (AV.ckOne (.int .u8 (.ofNat 0)) (AV.ckOne (.int .u8 (.ofNat 0)) (newK [.int .u8 (.ofNat 0),.int .u8 (.ofNat 0),.int .u8 (.ofNat 0),.int .u8 (.ofNat 0),.int .u8 (.ofNat 0),.int .u8 (.ofNat 0),.int .u8 (.ofNat 0),.int .u8 (.ofNat 0)] c d fun b=>forceN (Nat.succ d) fun c=>a 42 [.str 23 9619400811790731480667625529730063535523383318893784940,.sl d 0 8 (.known 8)] b c fun b c d=>extK 0 b fun f=>extK 1 b fun _=>AV.ckOne (.int .u8 (.ofNat 0)) (AV.ckOne (.int .u8 (.ofNat 0)) (AV.ckOne (.int .u8 (.ofNat 0)) (newK [.int .u8 (.ofNat 0),.int .u8 (.ofNat 0),.int .u8 (.ofNat 0)] c d fun b=>forceN (Nat.succ d) fun c=>a 42 [.str 28 10576643044805538441659448225850924817287502675233224724319657158772,.sl d 0 3 (.known 3)] b c fun b c d=>extK 0 b fun g=>extK 1 b fun _=>nilPE .eql f fun b=>jRn b c d (s15_25 a e g b f) fun a=>a g c d))))))))))))
theorem h15:HO 15 s15:=hO 0 (T2 L0 (T2 L0 (T2 L0 (T2 (T2 L0 (T2 .stop L0)) (T2 L0 (T2 L0 (T2 L0 (T2 (T2 L0 (T2 .stop L0)) (T2 L0 (T2 L0 L0)))))))))) Tryz.func15 Tryz.call15 fun N F G l H n k=>by kernel_rfl
def s16(_:Nat):Hand:=fun a _ b c d e=>arg1 b fun b f=>arg0 f (newK [.str 0 0,.str 0 0,I 0,.nils] c d fun c=>forceN (Nat.succ d) fun f=>a 46 [b,.bool false] c f fun a b c=>extK 0 a fun f=>extK 1 a fun a=>storeK 4 b (.ptr d 0) f fun _ b=>loadNK 4 b (.ptr d 0) fun d=>AV.ckOk d (AV.ckOk a (e (.tup [d,a]) b c)))
theorem h16:HO 16 s16:=hO 1 (T2 L0 (T2 L0 L0)) Tryz.func16 Tryz.call16 fun N F G l H n k=>by kernel_rfl
def s17_0:KJ:=fun _ b c=>nilK a (faddrK 0 a fun a=>loadNK 4 b a fun a=>storeK 4 b (.ptr n 0) a fun _ a=>loadNK 4 a (.ptr n 0) fun b=>AV.ckOk b (AV.ckOk (I 0) (k (.tup [b,I 0]) a c)))
def s17_1:KJ:=fun _ b c=>addI a (I 1) fun a=>j [a] b c
def s17_2:KJ:=fun _ b c=>addI a (I 1) fun a=>j [a] b c
def s17_3:KR:=fun d e f=>iaddrK 6 c a fun a=>faddrK 5 a fun a=>storeK 1 e a d fun _ a=>loadK e b fun b=>ifB (sameF 8 b c) (j [] a f)
def s17_4:KQ:=fun e=>iaddrK 1 b c fun f=>loadK H f fun f=>F 56 [e,f] H n fun e f g=>notB e fun e=>cB e (forceN (Nat.add g 1) fun e=>nilK d (faddrK 0 d fun h=>faddrK 0 h fun h=>loadK f h fun i=>nilK d (faddrK 0 d fun d=>faddrK 0 d fun d=>loadK f d fun d=>iaddrK 6 d a fun d=>faddrK 5 d fun d=>loadK f d fun d=>iaddrK 1 b c fun b=>loadK f b fun b=>forceN (Nat.add g 0) fun c=>AV.ckOne b (newK [b] f c fun b=>at_ b c fun b=>hput f c b fun b=>mR (s17_3 j a h i) (appK 1 b e d (.sl c 0 1 (.known 1))))))) (j [] f g)
def s17_5:KQ:=fun e=>lssI c e fun e=>cB e (mJ (s17_2 J c) fun e=>faddrK 1 (.ptr n 0) fun f=>loadK H f fun f=>mQ (s17_4 F e H m a b c d) (sliceK 1 f (some (I 1)) none)) (j [] H m)
def s17_6:KJ→KJ:=fun d e f g=>arg1 e fun e _=>mQ (s17_5 F j d f n g a b e c) (lenSl b)
def s17_7:KQ:=fun d=>lssI b d fun d=>cB d (mJ (s17_1 J b) fun d=>nilK c (faddrK 0 c fun e=>faddrK 0 e fun e=>loadK H e fun e=>iaddrK 6 e b fun e=>loadNK 6 H e fun e=>newK [.str 0 0,.nils,.str 0 0,I 0,.nils,.nils] H m fun f=>forceN (Nat.succ m) fun g=>storeK 6 f (.ptr m 0) e fun _ e=>faddrK 0 (.ptr m 0) fun f=>loadK e f fun f=>strB .neq f (.str 4 1668248176) fun f=>cB f (d [] e g) (faddrK 4 (.ptr m 0) fun f=>loadK e f fun f=>iaddrK 1 f (I 0) fun f=>loadK e f fun f=>iaddrK 1 a f fun a=>loadK e a fun a=>F 55 [a] e g fun a e f=>mJ (fun _ a b=>d [] a b) fun d=>iterN n (s17_6 F d m b a c) [I 0] e f))) (j [] H m)
def s17_8:KJ→KJ:=fun c d e f=>arg1 d fun d _=>nilK b (faddrK 0 b fun g=>faddrK 0 g fun g=>loadK e g fun g=>mQ (s17_7 F j c e n f a d b) (lenSl g))
def s17_9:KQ:=fun d=>F 54 [b,d,a] H m fun a b d=>mJ (s17_0 k N c) fun e=>iterN n (s17_8 F e n a c) [I 0] b d
def s17_10:KR:=fun c d e=>pickK b fT c fun b=>cB b false (nilK a (faddrK 0 a fun b=>faddrK 0 b fun b=>loadK d b fun b=>F 53 [b] d e fun b c d=>extK 0 b fun e=>extK 1 b fun _=>nilK a (faddrK 0 a fun b=>faddrK 0 b fun b=>loadK c b fun b=>nilK a (faddrK 0 a fun f=>faddrK 1 f fun f=>loadK c f fun f=>mQ (s17_9 F c k n d m e b a) (lenSl f)))))
def s17_11:KR:=fun c d e=>jRn b d e (s17_10 F k n m a b) fun a=>gtrI c (I 800) fun b=>a b d e
def s17_12:KR:=fun c d e=>jRn b d e (s17_11 F k n m a b) fun a=>mQ (fun b=>a b d e) (lenSl c)
def s17_13:KR:=fun c d e=>jRn b d e (s17_12 F k n m a b) fun a=>loadK d c fun b=>a b d e
def s17_14:KR:=fun c d e=>jRn b d e (s17_13 F k n m a b) fun a=>faddrK 1 c fun b=>a b d e
def s17_15:KR:=fun c d e=>jRn b d e (s17_14 F k n m a b) fun a=>faddrK 0 c fun b=>a b d e
def s17_16:KR:=fun c d e=>jRn b d e (s17_15 F k n m a b) fun a=>nilK c (a c d e)
def s17_17:KQ:=fun b=>gtrI b (I 1200) fun b=>jRn b H m (s17_16 F k n N a b) fun b=>b a H m
def s17_18:KQ:=fun c=>nilK a (faddrK 0 a fun d=>faddrK 2 d fun d=>storeK 1 H d c fun _ c=>loadNK 4 c b fun b=>F 52 [a,b] c m fun b c d=>nilK a (faddrK 0 a fun e=>faddrK 3 e fun e=>storeK 1 c e b fun _ b=>nilK a (faddrK 5 a fun c=>loadK b c fun c=>cB c false (nilK a (faddrK 0 a fun c=>faddrK 0 c fun c=>loadK b c fun c=>mQ (s17_17 F b k n d N a) (lenSl c))))))
def s17_19:KJ:=fun _ d e=>mQ (s17_18 F d k n e m b c) (lenSl a)
def s17_20:KJ:=fun _ b c=>addI a (I 1) fun a=>j [a] b c
def s17_21:KQ:=fun d=>lssI a d fun d=>cB d (mJ (s17_20 J a) fun d=>iaddrK 1 b a fun a=>loadK H a fun a=>F 51 [c,a] H n fun _ a b=>d [] a b) (j [] H n)
def s17_22:KJ→KJ:=fun c d e f=>arg1 d fun d _=>mQ (s17_21 F j c e f d a b) (lenSl a)
def s17_23:KJ:=fun _ c d=>boxE (.agg [.nils,.nils,I 0,I 0,.nils,.bool false]) c d fun c e=>forceN (Nat.succ d) fun d=>mJ (s17_19 F k n m a c b) fun b=>iterN n (s17_22 F b a c) [I 0] e d
def s17_24:KJ:=fun _ b c=>addI a (I 1) fun a=>j [a] b c
def s17_25:KJ:=fun _ c d=>iaddrK 1 b a fun a=>loadK c a fun a=>F 50 [a] c d fun a b c=>notB a fun a=>cB a false (j [] b c)
def s17_26:KJ:=fun _ b c=>addI a (I 1) fun a=>j [a] b c
def s17_27:KJ→KJ:=fun c d e f=>arg1 d fun d _=>lssI d a fun g=>cB g (mJ (s17_26 c d) fun c=>iaddrK 1 b d fun d=>loadK e d fun d=>iaddrK 1 b a fun a=>loadK e a fun a=>strB .eql d a fun a=>cB a false (c [] e f)) (j [] e f)
def s17_28:KQ:=fun c=>lssI a c fun c=>cB c (mJ (s17_24 J a) fun c=>mJ (s17_25 F c a b) fun c=>iterN n (s17_27 c a b) [I 0] H m) (j [] H m)
def s17_29:KJ→KJ:=fun b c d e=>arg1 c fun c _=>mQ (s17_28 F j b d n e c a) (lenSl a)
def s17_30:KQ:=fun c=>gtrI c (I 50) fun c=>cB c false (mJ (s17_23 F k n N a b) fun b=>iterN n (s17_29 F b n a) [I 0] H m)
def s17_31:KR:=fun c d e=>mQ (s17_30 F d k n e m c b) (lenSl a)
def s17_32:KR:=fun d e f=>pickK a fT d fun a=>cB a false (F 49 [] e f fun a d e=>mR (s17_31 F k n m b c) (appK 1 d e a b))
def s17_33:KR:=fun d e f=>jRn a e f (s17_32 F k n m a b c) fun a=>notB d fun b=>a b e f
def s17_34:KR:=fun d e f=>jRn a e f (s17_33 F k n m a b c) (F 48 [d] e f)
def s17(a:Nat):Hand:=fun b _ c d e f=>arg1 c fun c g=>arg1 g fun g h=>arg0 h (boxE c d e fun c d=>forceN (Nat.succ e) fun e=>newK [.nils,.nils,I 0,I 0] d e fun d=>forceN (Nat.succ e) fun h=>loadNK 4 d c fun i=>b 47 [i,I 40] d h fun d h i=>jRn d h i (s17_34 b f a e d g c) fun a=>loadNK 4 h c fun b=>a b h i)
theorem h17:HO 17 s17:=hO 2 (T2 L0 (T2 (T2 L0 (T2 .stop L0)) (T2 L0 (T2 (T2 L0 (T2 .stop L0)) (T2 (T2 L0 (.one [] (.one [7] (T2 (T2 L0 (T2 L0 L0)) (T2 (.one [] (T2 (T2 L0 (.one [] (.one [8] (T2 (T2 L0 (T2 L0 L0)) (T2 (.one [] (T2 L0 (T2 .stop L0))) L0))))) (T2 L0 (T2 .stop L0)))) L0))))) (T2 L0 (T2 (T2 L0 (.one [] (.one [10] (T2 (T2 L0 (T2 L0 L0)) (T2 (.one [] L0) L0))))) (T2 L0 (T2 L0 (T2 (T2 L0 (T2 .stop L0)) (T2 (T2 L0 (T2 .stop L0)) (T2 L0 (T2 L0 (T2 (T2 L0 (.one [] (.one [14] (T2 (T2 L0 (T2 L0 L0)) (T2 (.one [] (T2 L0 (T2 (T2 L0 (T2 L0 L0)) (T2 L0 (T2 L0 (.one [] (.one [17] (T2 (T2 L0 (T2 L0 L0)) (T2 (.one [] (T2 L0 (T2 L0 L0))) L0))))))))) L0))))) (T2 L0 L0))))))))))))))) Tryz.func17 Tryz.call17 fun N F G l H n k=>by kernel_rfl
def s18_0:KJ:=fun a b c=>arg1 a fun a _=>gtrI a (I 6000) fun a=>k a b c
def s18_1:KJ:=fun b c d=>arg1 b fun b _=>addI a (I 1) fun a=>j [b,a] c d
def s18_2:KQ:=fun b=>addI a b fun a=>j [a] H n
def s18_3:KQ:=fun d=>addI b d fun b=>faddrK 0 c fun c=>loadK H c fun c=>iaddrK 6 c a fun a=>faddrK 5 a fun a=>loadK H a fun a=>mQ (s18_2 j H n b) (lenSl a)
def s18_4:KQ:=fun d=>addI a d fun a=>faddrK 0 c fun d=>loadK H d fun d=>iaddrK 6 d b fun d=>faddrK 4 d fun d=>loadK H d fun d=>mQ (s18_3 j H n b a c) (lenSl d)
def s18_5:KQ:=fun d=>lssI b d fun d=>cB d (mJ (s18_1 J b) fun d=>faddrK 0 c fun e=>loadK H e fun e=>iaddrK 6 e b fun e=>faddrK 1 e fun e=>loadK H e fun e=>mQ (s18_4 d H n a b c) (lenSl e)) (j [a] H n)
def s18_6:KJ→KJ:=fun b c d e=>arg1 c fun c f=>arg1 f fun f _=>faddrK 0 a fun g=>loadK d g fun g=>mQ (s18_5 j b d e c f a) (lenSl g)
def s18_7:KR:=fun c d e=>pickK b fT c fun b=>cB b false (mJ (s18_0 k) fun b=>iterN n (s18_6 b a) [I 0,I 0] d e)
def s18_8:KR:=fun c d e=>jRn b d e (s18_7 k n a b) fun a=>gtrI c (I 2000) fun b=>a b d e
def s18_9:KR:=fun c d e=>jRn b d e (s18_8 k n a b) fun a=>mQ (fun b=>a b d e) (lenSl c)
def s18_10:KR:=fun c d e=>jRn b d e (s18_9 k n a b) fun a=>loadK d c fun b=>a b d e
def s18_11:KR:=fun c d e=>pickK b fT c fun b=>jRn b d e (s18_10 k n a b) fun b=>faddrK 1 a fun a=>b a d e
def s18_12:KR:=fun c d e=>jRn b d e (s18_11 k n a b) fun a=>gtrI c (I 2000) fun b=>a b d e
def s18_13:KR:=fun c d e=>jRn b d e (s18_12 k n a b) fun a=>mQ (fun b=>a b d e) (lenSl c)
def s18_14:KR:=fun c d e=>jRn b d e (s18_13 k n a b) fun a=>loadK d c fun b=>a b d e
def s18_15:KR:=fun c d e=>pickK b fT c fun b=>jRn b d e (s18_14 k n a b) fun b=>faddrK 0 a fun a=>b a d e
def s18_16:KR:=fun d e f=>jRn b e f (s18_15 k n a b) fun a=>pickK c d fF fun b=>a b e f
def s18_17:KR:=fun d e f=>jR c e f (s18_16 k n a b c) fun a=>leqI d (I 800) fun b=>a b e f
def s18_18:KR:=fun d e f=>jR c e f (s18_17 k n a b c) fun a=>mQ (fun b=>a b e f) (lenSl d)
def s18_19:KR:=fun d e f=>jR c e f (s18_18 k n a b c) fun a=>loadK e d fun b=>a b e f
def s18_20:KR:=fun c d e=>jR c d e (s18_19 k n a b c) fun b=>faddrK 1 a fun a=>b a d e
def s18_21:KR:=fun c d e=>jRn b d e (s18_20 k n a b) fun a=>a c d e
def s18_22:KR:=fun c d e=>jRn b d e (s18_21 k n a b) fun a=>gtrI c (I 300) fun b=>a b d e
def s18_23:KR:=fun c d e=>jRn b d e (s18_22 k n a b) fun a=>mQ (fun b=>a b d e) (lenSl c)
def s18_24:KR:=fun c d e=>jRn b d e (s18_23 k n a b) fun a=>loadK d c fun b=>a b d e
def s18_25:KR:=fun c d e=>pickK b c fF fun b=>jRn b d e (s18_24 k n a b) fun b=>faddrK 1 a fun a=>b a d e
def s18_26:KR:=fun c d e=>jR b d e (s18_25 k n a b) fun a=>leqI c (I 1200) fun b=>a b d e
def s18_27:KR:=fun c d e=>jR b d e (s18_26 k n a b) fun a=>mQ (fun b=>a b d e) (lenSl c)
def s18_28:KR:=fun c d e=>jR b d e (s18_27 k n a b) fun a=>loadK d c fun b=>a b d e
def s18_29:KQ:=fun b=>gtrI b (I 400) fun b=>jR b H m (s18_28 k n a b) fun b=>faddrK 0 a fun a=>b a H m
def s18(a:Nat):Hand:=fun _ _ b c d e=>arg1 b fun b f=>arg0 f (boxE b c d fun b c=>forceN (Nat.succ d) fun d=>faddrK 0 b fun f=>loadK c f fun f=>mQ (s18_29 c e a d b) (lenSl f))
theorem h18:HO 18 s18:=hO 1 (T2 L0 (T2 (T2 L0 (T2 .stop L0)) (T2 L0 (T2 (T2 L0 (.one [3] (.one [3,4] (T2 (T2 L0 (T2 L0 L0)) (T2 (.one [3] L0) L0))))) (T2 L0 L0))))) Tryz.func18 Tryz.call18 fun N F G l H n k=>by kernel_rfl
def s19(_:Nat):Hand:=fun a _ b c d e=>arg1 b fun b f=>arg0 f (a 57 [b,I 10] c d e)
theorem h19:HO 19 s19:=hO 1 (T2 L0 (T2 L0 L0)) Tryz.func19 Tryz.call19 fun N F G l H n k=>by kernel_rfl
def s20_0:KQ:=fun b=>AV.ckOk a (F 64 [b,.fn (.func 65) [] [a]] H n fun a b c=>notB a fun a=>k a b c)
def s20_1:KJ:=fun _ c d=>faddrK 3 a fun e=>loadK c e fun e=>mQ (s20_0 F c k d a) fun a=>AV.ckNum e (lookM [] .nils false b e c a)
def s20_2:KJ:=fun b c d=>arg1 b fun b e=>arg1 e fun e f=>arg1 f fun f g=>arg1 g fun g h=>arg1 h fun h i=>arg1 i fun i l=>arg1 l fun l _=>addI a (I 1) fun a=>j [a,b,e,f,g,h,i,l] c d
def s20_3:KN:=fun _=>cB h false (j [a,b,c,d,e,f,g] H n)
def s20_4:KQ:=fun h=>pickK a h fF fun i=>joinP (α:=KN) (s20_3 j K n b c d e f g h i) fun d=>AV.ckGd a (fun a=>ifte a (loadK H b fun a=>ifB (sameF 8 a c) (d 0)) (d 0)) (d 0)
def s20_5:KR:=fun g h i=>jQ a (s20_4 j H h i a b c d e f g) (notB g)
def s20_6:KR:=fun f g h=>jR a g h (s20_5 j g a b c d e f) (F 62 [c,f] g h)
def s20_7:KQ:=fun e=>jR a H n (s20_6 F j a b c d e) (F 63 [d,e] H n)
def s20_8:KQ:=fun e=>jQ a (s20_7 F j H n a b c e) fun a=>a d
def s20_9:KQ:=fun d=>jQ a (s20_8 F j H m a b d c) (loadNK 6 H (.ptr n 0))
def s20_10:KQ:=fun c=>jQ a (s20_9 F j H n m a c b) (loadK H c)
def s20_11:KJ→KJ:=fun e f g h=>arg1 f fun f i=>arg1 i fun _ i=>arg1 i fun _ i=>arg1 i fun _ i=>arg1 i fun _ i=>arg1 i fun _ i=>arg1 i fun _ i=>arg1 i fun _ _=>lssI f d fun d=>cB d (mJ (s20_2 e f) fun d=>iaddrK 6 c f fun c=>loadNK 6 g c fun c=>newK [.str 0 0,.nils,.str 0 0,I 0,.nils,.nils] g h fun e=>forceN (Nat.succ h) fun g=>storeK 6 e (.ptr h 0) c fun _ c=>loadNK 4 c a fun a=>F 61 [a,f,b] c g fun a c e=>notB a fun a=>cB a false (faddrK 0 (.ptr h 0) fun a=>loadK c a fun a=>strB .eql a (.str 4 1668248176) fun a=>jQ a (s20_10 F d c h e a b) (faddrK 5 (.ptr h 0)))) (j [] g h)
def s20_12:KQ:=fun d=>mJ (s20_1 F k a b) fun e=>iterN n (s20_11 F e a b c d) [I 0,.bad,.bad,.bad,.bad,.bad,.bad,.bad] H m
def s20_13:KJ:=fun _ b c=>loadNK 4 b a fun d=>F 60 [d] b c fun b c d=>notB b fun b=>cB b false (mkmapE c d fun b c=>forceN (Nat.succ d) fun d=>faddrK 0 a fun e=>loadK c e fun e=>mQ (s20_12 F c k n d a b e) (lenSl e))
def s20_14:KJ:=fun _ b c=>addI a (I 1) fun a=>j [a] b c
def s20_15:KJ→KJ:=fun d e f g=>arg1 e fun e _=>lssI e c fun c=>cB c (mJ (s20_14 d e) fun c=>iaddrK 6 b e fun b=>loadNK 6 f b fun b=>newK [.str 0 0,.nils,.str 0 0,I 0,.nils,.nils] f g fun d=>forceN (Nat.succ g) fun e=>storeK 6 d (.ptr g 0) b fun _ b=>loadNK 4 b a fun a=>loadNK 6 b (.ptr g 0) fun d=>F 59 [a,d] b e fun a b d=>notB a fun a=>cB a false (c [] b d)) (j [] f g)
def s20_16:KQ:=fun c=>mJ (s20_13 F k n a) fun d=>iterN n (s20_15 F d a b c) [I 0] H m
def s20_17:KR:=fun c d e=>pickK b fT c fun b=>cB b false (faddrK 0 a fun b=>loadK d b fun b=>mQ (s20_16 F d k n e a b) (lenSl b))
def s20_18:KR:=fun c d e=>jRn b d e (s20_17 F k n a b) fun a=>notB c fun b=>a b d e
def s20_19:KR:=fun c d e=>jRn b d e (s20_18 F k n a b) (F 58 [c] d e)
def s20_20:KR:=fun c d e=>pickK b fT c fun b=>jRn b d e (s20_19 F k n a b) fun b=>loadNK 4 d a fun a=>b a d e
def s20_21:KR:=fun d e f=>jRn b e f (s20_20 F k n a b) fun a=>geqI c d fun b=>a b e f
def s20_22:KR:=fun d e f=>jRn b e f (s20_21 F k n a b c) fun a=>mQ (fun b=>a b e f) (lenSl d)
def s20_23:KR:=fun d e f=>jRn b e f (s20_22 F k n a b c) fun a=>loadK e d fun b=>a b e f
def s20_24:KR:=fun c d e=>jRn b d e (s20_23 F k n a b c) fun b=>faddrK 0 a fun a=>b a d e
def s20_25:KR:=fun c d e=>jRn b d e (s20_24 F k n a b) fun a=>loadK d c fun b=>a b d e
def s20_26:KR:=fun c d e=>pickK b fT c fun b=>jRn b d e (s20_25 F k n a b) fun b=>faddrK 3 a fun a=>b a d e
def s20_27:KR:=fun c d e=>jRn b d e (s20_26 F k n a b) fun a=>lssI c (I 0) fun b=>a b d e
def s20_28:KR:=fun c d e=>jRn b d e (s20_27 F k n a b) fun a=>loadK d c fun b=>a b d e
def s20_29:KR:=fun c d e=>pickK b fT c fun b=>jRn b d e (s20_28 F k n a b) fun b=>faddrK 3 a fun a=>b a d e
def s20_30:KR:=fun c d e=>jRn b d e (s20_29 F k n a b) fun a=>gtrI c (I 1200) fun b=>a b d e
def s20_31:KR:=fun c d e=>jRn b d e (s20_30 F k n a b) fun a=>mQ (fun b=>a b d e) (lenSl c)
def s20_32:KR:=fun c d e=>jRn b d e (s20_31 F k n a b) fun a=>loadK d c fun b=>a b d e
def s20_33:KQ:=fun b=>lssI b (I 1) fun b=>jRn b H m (s20_32 F k n a b) fun b=>faddrK 0 a fun a=>b a H m
def s20(a:Nat):Hand:=fun b _ c d e f=>arg1 c fun c g=>arg0 g (boxE c d e fun c d=>forceN (Nat.succ e) fun e=>faddrK 0 c fun g=>loadK d g fun g=>mQ (s20_33 b d f a e c) (lenSl g))
theorem h20:HO 20 s20:=hO 1 (T2 L0 (T2 (T2 L0 (T2 .stop L0)) (T2 (T2 L0 (.one [] (.one [39] (T2 L0 (T2 (T2 L0 L0) (T2 (.one [] (T2 L0 (T2 L0 (T2 .stop L0)))) L0)))))) (T2 (T2 L0 (T2 .stop L0)) (T2 L0 (T2 (T2 L0 (.one [] (.one [55,69,70,71,72,73,74,75] (T2 L0 (T2 (T2 L0 L0) (T2 (.one [69,70,71,72,73,74,75] (T2 L0 (T2 (T2 L0 (T2 .stop L0)) (T2 L0 (T2 .stop L0))))) L0)))))) (T2 L0 L0))))))) Tryz.func20 Tryz.call20 fun N F G l H n k=>by kernel_rfl
def s21_0:KJ:=fun _ a b=>loadNK 4 a (.ptr n 0) fun c=>storeK 4 a (.ptr m 0) c fun _ a=>loadNK 4 a (.ptr m 0) fun c=>k c a b
def s21_1:KJ:=fun _ b c=>addI a (I 1) fun a=>j [a] b c
def s21_2:KR:=fun a b c=>faddrK 0 (.ptr n 0) fun d=>storeK 1 b d a fun _ a=>j [] a c
def s21_3:KJ→KJ:=fun c d e f=>arg1 d fun d _=>lssI d b fun b=>cB b (mJ (s21_1 c d) fun b=>iaddrK 6 a d fun a=>loadNK 6 e a fun a=>newK [.str 0 0,.nils,.str 0 0,I 0,.nils,.nils] e f fun c=>forceN (Nat.succ f) fun d=>storeK 6 c (.ptr f 0) a fun _ a=>faddrK 1 (.ptr f 0) fun c=>loadK a c fun c=>F 67 [c] a d fun c d e=>faddrK 4 (.ptr f 0) fun g=>loadK d g fun h=>F 67 [h] d e fun e i j=>faddrK 5 (.ptr f 0) fun l=>loadK i l fun m=>F 67 [m] i j fun i j o=>faddrK 1 (.ptr f 0) fun p=>storeK 1 j p c fun _ c=>faddrK 4 (.ptr f 0) fun j=>storeK 1 c j e fun _ c=>faddrK 5 (.ptr f 0) fun e=>storeK 1 c e i fun _ c=>loadK a g fun e=>ifB (sameF 8 e h) (loadK a l fun a=>ifB (sameF 8 a m) (loadK d l fun a=>ifB (sameF 8 a m) (faddrK 0 (.ptr n 0) fun a=>loadK c a fun a=>loadNK 6 c (.ptr f 0) fun d=>Ev.layK 0 6 true d [.str 0 0,.nils,.str 0 0,I 0,.nils,.nils] fun d=>newK d c o fun c=>forceN (Nat.succ o) fun d=>mR (s21_2 b n) (appK 6 c d a (.sl o 0 1 (.known 1))))))) (j [] e f)
def s21_4:KQ:=fun b=>mJ (s21_0 k N n1) fun c=>iterN n (s21_3 F c N a b) [I 0] H m
def s21(a:Nat):Hand:=fun b _ c d e f=>arg1 c fun c g=>arg0 g (boxE c d e fun c d=>forceN (Nat.succ e) fun e=>newK [.nils,.nils,I 0,I 0] d e fun d=>forceN (Nat.succ e) fun g=>forceN (Nat.add g 1) fun h=>faddrK 1 c fun i=>loadK d i fun i=>b 66 [i] d h fun h i j=>faddrK 2 c fun l=>loadK i l fun m=>faddrK 3 c fun o=>loadK i o fun p=>AV.ckOne h (AV.ckOne m (AV.ckOne p (forceN (Nat.add g 0) fun g=>newK [.nils,.nils,I 0,I 0] i g fun q=>at_ q g fun q=>hput i g q fun q=>storeK 4 q (.ptr g 0) (.agg [.nils,h,m,p]) fun _ h=>loadK d l fun l=>ifB (sameF 8 l m) (loadK d o fun d=>ifB (sameF 8 d p) (at_ i g fun d=>Blk.ckDead d (faddrK 0 c fun c=>loadK h c fun c=>mQ (s21_4 b h f a j g e c) (lenSl c))))))))
theorem h21:HO 21 s21:=hO 1 (T2 L0 (T2 L0 (T2 (T2 L0 (.one [] (.one [17] (T2 L0 (T2 (T2 L0 L0) (T2 (.one [] (T2 L0 (T2 L0 L0))) L0)))))) (T2 L0 L0)))) Tryz.func21 Tryz.call21 fun N F G l H n k=>by kernel_rfl
def s22_0:KJ:=fun _ b c=>addI a (I 1) fun a=>j [a] b c
def s22_1:KJ→KJ:=fun c d e f=>arg1 d fun d _=>lssI d a fun a=>cB a (mJ (s22_0 c d) fun a=>iaddrK 1 (.sl n 0 8 (.known 8)) d fun c=>loadK e c fun c=>nilK b (faddrK 0 b fun b=>loadK e b fun b=>F 71 [b,c] e f fun _ b c=>a [] b c)) (j [] e f)
def s22_2:KQ:=fun b=>mJ (fun _ b c=>k a b c) fun c=>iterN n (s22_1 F c m b a) [I 0] H N
def s22_3:KJ:=fun _ b c=>AV.ckOne (.str 7 28554821303361894) (AV.ckOne (.str 4 1701869940) (AV.ckOne (.str 5 521644110433) (AV.ckOne (.str 5 435526984050) (AV.ckOne (.str 7 32479991798327412) (AV.ckOne (.str 5 461228831859) (AV.ckOne (.str 6 133532402673005) (AV.ckOne (.str 4 1735290732) (newK [.str 7 28554821303361894,.str 4 1701869940,.str 5 521644110433,.str 5 435526984050,.str 7 32479991798327412,.str 5 461228831859,.str 6 133532402673005,.str 4 1735290732] b c fun b=>forceN (Nat.succ c) fun d=>mQ (s22_2 F b k n c d a) (lenSl (.sl c 0 8 (.known 8)))))))))))
def s22_4:KJ:=fun _ b c=>addI a (I 1) fun a=>j [a] b c
def s22_5:KJ→KJ:=fun c d e f=>arg1 d fun d _=>lssI d a fun a=>cB a (mJ (s22_4 c d) fun a=>lssI d (I 10) fun c=>cB c (nilK b (faddrK 0 b fun b=>loadK e b fun b=>F 69 [b,.str 4 1668248176,d] e f fun _ b c=>a [] b c)) (nilK b (faddrK 0 b fun b=>loadK e b fun b=>F 70 [b] e f fun _ b c=>a [] b c))) (j [] e f)
def s22(a:Nat):Hand:=fun b _ c d e f=>arg1 c fun c g=>arg0 g (b 68 [] d e fun d e g=>AV.ckOne d (AV.ckOne c (boxE (.agg [d,c,.nils,.nils,.nils,.nils,.nils]) e g fun d e=>forceN (Nat.succ g) fun g=>mJ (s22_3 b f a d) fun f=>iterN a (s22_5 b f c d) [I 0] e g)))
theorem h22:HO 22 s22:=hO 1 (T2 L0 (T2 L0 (T2 (T2 L0 (.one [] (.one [12] (T2 L0 (T2 (T2 L0 L0) (T2 (.one [] (T2 L0 (T2 L0 (T2 L0 L0)))) L0)))))) (T2 (T2 L0 (.one [] (.one [31] (T2 L0 (T2 (T2 L0 L0) (T2 (.one [] (T2 L0 L0)) L0)))))) (T2 L0 L0))))) Tryz.func22 Tryz.call22 fun N F G l H n k=>by kernel_rfl
def s23_0:KQ:=fun a=>F 72 [.sl n 0 1 (.known 1),a] H m fun a b c=>AV.ckOne a (boxE (.agg [a]) b c fun a b=>forceN (Nat.succ c) (k a b))
def s23(_:Nat):Hand:=fun a _ b c d e=>arg1 b fun b f=>arg0 f (AV.ckOne (.int .i64 (.negSucc 0)) (newK [.int .i64 (.negSucc 0)] c d fun c=>forceN (Nat.succ d) fun f=>nilK b (faddrK 0 b fun b=>faddrK 1 b fun b=>loadK c b fun b=>mQ (s23_0 a c e d f) (lenSl b))))
theorem h23:HO 23 s23:=hO 1 (T2 L0 (T2 L0 L0)) Tryz.func23 Tryz.call23 fun N F G l H n k=>by kernel_rfl
def s24_0:KR:=fun b c d=>nilK a (faddrK 6 a fun a=>storeK 1 c a b fun _ a=>k fT a d)
def s24_1:KQ:=fun c=>eqlI c (I 64) fun c=>cB c false (forceN (Nat.add n 3) fun c=>nilK a (faddrK 6 a fun d=>loadK H d fun d=>loadNK 2 H b fun b=>Ev.layK 0 2 true b [I 0,.nilp,.bool false] fun b=>Ev.layK 2 1 false fF b fun b=>forceN (Nat.add n 0) fun e=>Ev.layK 0 3 true (.agg b) [I 0,.nilp,.bool false] fun b=>newK b H e fun b=>at_ b e fun b=>AV.ckOne (.sl e 0 1 (.known 1)) (AV.ckOne (.int .i64 (.negSucc 0)) (AV.ckOne (.int .i64 (.negSucc 0)) (forceN (Nat.add n 1) fun f=>boxE (.agg [.sl e 0 1 (.known 1),.int .i64 (.negSucc 0),.int .i64 (.negSucc 0)]) H f fun g h=>at_ h f fun h=>forceN (Nat.add n 2) fun i=>AV.ckOne g (newK [g] H i fun g=>at_ g i fun g=>hput H e b fun b=>hput b f h fun b=>hput b i g fun b=>mR (s24_0 k a) (appK 1 b c d (.sl i 0 1 (.known 1)))))))))
def s24(_:Nat):Hand:=fun _ _ a b c d=>arg1 a fun a e=>arg1 e fun e f=>arg0 f (boxE e b c fun b e=>forceN (Nat.succ c) fun c=>nilK a (faddrK 6 a fun f=>loadK e f fun f=>mQ (s24_1 e d c a b) (lenSl f)))
theorem h24:HO 24 s24:=hO 2 (T2 L0 (T2 (T2 L0 (T2 .stop L0)) (T2 L0 (T2 L0 L0)))) Tryz.func24 Tryz.call24 fun N F G l H n k=>by kernel_rfl
def s25_0:KR:=fun b c d=>pickK a b fF fun a=>k a c d
def s25_1:KR:=fun b c d=>jR a c d (s25_0 k a) fun a=>nilPE .neq b fun b=>a b c d
def s25_2:KR:=fun b c d=>jR a c d (s25_1 k a) fun a=>loadK c b fun b=>a b c d
def s25_3:KR:=fun b c d=>jR a c d (s25_2 k a) fun a=>faddrK 5 b fun b=>a b c d
def s25_4:KR:=fun b c d=>jR a c d (s25_3 k a) fun a=>nilK b (a b c d)
def s25(_:Nat):Hand:=fun _ _ a b c d=>arg1 a fun a e=>arg0 e (nilPE .neq a fun e=>jR e b c (s25_4 d e) fun d=>d a b c)
theorem h25:HO 25 s25:=hO 1 (T2 L0 (T2 L0 L0)) Tryz.func25 Tryz.call25 fun N F G l H n k=>by kernel_rfl
def s26(_:Nat):Hand:=fun a _ b c d e=>arg1 b fun b f=>arg0 f (a 27 [b] c d fun c d f=>notB c fun c=>cB c false (forceN (Nat.add f 1) fun c=>nilK b (faddrK 1 b fun g=>loadK d g fun g=>a 73 [g] d c fun c g h=>nilK b (faddrK 2 b fun b=>loadK g b fun i=>a 67 [i] g h fun a g h=>AV.ckOne fT (AV.ckOne c (AV.ckOne a (forceN (Nat.add f 0) fun f=>boxE (.agg [.bool true,c,a]) g f fun a c=>at_ c f fun c=>loadK d b fun b=>ifB (sameF 8 b i) (hput g f c fun b=>e a b h))))))))
theorem h26:HO 26 s26:=hO 1 (T2 L0 (T2 (T2 L0 (T2 .stop L0)) (T2 L0 L0))) Tryz.func26 Tryz.call26 fun N F G l H n k=>by kernel_rfl
def s27_0:KR:=fun b c d=>pickK a b fF fun a=>k a c d
def s27_1:KR:=fun b c d=>jR a c d (s27_0 k a) fun a=>loadK c b fun b=>a b c d
def s27_2:KR:=fun b c d=>jR a c d (s27_1 k a) fun a=>faddrK 0 b fun b=>a b c d
def s27_3:KR:=fun b c d=>jR a c d (s27_2 k a) fun a=>nilK b (a b c d)
def s27(_:Nat):Hand:=fun _ _ a b c d=>arg1 a fun a e=>arg0 e (nilPE .neq a fun e=>jR e b c (s27_3 d e) fun d=>d a b c)
theorem h27:HO 27 s27:=hO 1 (T2 L0 (T2 L0 L0)) Tryz.func27 Tryz.call27 fun N F G l H n k=>by kernel_rfl
def s28(_:Nat):Hand:=fun a _ b c d e=>arg1 b fun b f=>arg0 f (a 25 [b] c d fun a c d=>notB a fun a=>cB a false (nilK b (faddrK 6 b fun a=>loadK c a fun a=>mQ (fun a=>e a c d) (lenSl a))))
theorem h28:HO 28 s28:=hO 1 (T2 L0 (T2 (T2 L0 (T2 .stop L0)) (T2 L0 L0))) Tryz.func28 Tryz.call28 fun N F G l H n k=>by kernel_rfl
def s29_0:KJ:=fun _ a b=>k (I 0) a b
def s29(_:Nat):Hand:=fun a _ b c d e=>arg1 b fun b f=>arg1 f fun f g=>arg0 g (mJ (s29_0 e) fun e=>a 25 [b] c d fun c d g=>notB c fun c=>cB c false (a 39 [b,f] d g fun a b c=>notB a fun a=>cB a false (e [] b c)))
theorem h29:HO 29 s29:=hO 2 (T2 L0 (T2 (.one [] (T2 L0 (T2 .stop (T2 L0 (T2 .stop L0))))) (T2 L0 L0))) Tryz.func29 Tryz.call29 fun N F G l H n k=>by kernel_rfl
def s30_0:KR:=fun _ b c=>AV.ckOne (.fn (.func 107) [] []) (mR (fun _ b c=>k a b c) fun d=>AV.ckStr (.str 2 28783) fun _ _=>mapK [] b a (.str 2 28783) (.agg [.fn (.func 107) [] []]) fun a b=>d a b c)
def s30_1:KR:=fun _ b c=>AV.ckOne (.fn (.func 106) [] []) (mR (s30_0 k a) fun d=>AV.ckStr (.str 5 435727982962) fun _ _=>mapK [] b a (.str 5 435727982962) (.agg [.fn (.func 106) [] []]) fun a b=>d a b c)
def s30_2:KR:=fun _ b c=>AV.ckOne (.fn (.func 105) [] []) (mR (s30_1 k a) fun d=>AV.ckStr (.str 3 7959156) fun _ _=>mapK [] b a (.str 3 7959156) (.agg [.fn (.func 105) [] []]) fun a b=>d a b c)
def s30_3:KR:=fun _ b c=>AV.ckOne (.fn (.func 104) [] []) (mR (s30_2 k a) fun d=>AV.ckStr (.str 4 1684366702) fun _ _=>mapK [] b a (.str 4 1684366702) (.agg [.fn (.func 104) [] []]) fun a b=>d a b c)
def s30_4:KR:=fun _ b c=>AV.ckOne (.fn (.func 102) [] []) (mR (s30_3 k a) fun d=>AV.ckStr (.str 6 110369476601972) fun _ _=>mapK [] b a (.str 6 110369476601972) (.agg [.fn (.func 102) [] []]) fun a b=>d a b c)
def s30_5:KR:=fun _ b c=>AV.ckOne (.fn (.func 100) [] []) (mR (s30_4 k a) fun d=>AV.ckStr (.str 5 521510350945) fun _ _=>mapK [] b a (.str 5 521510350945) (.agg [.fn (.func 100) [] []]) fun a b=>d a b c)
def s30_6:KR:=fun _ b c=>AV.ckOne (.fn (.func 98) [] []) (mR (s30_5 k a) fun d=>AV.ckStr (.str 9 1870935025940931240291) fun _ _=>mapK [] b a (.str 9 1870935025940931240291) (.agg [.fn (.func 98) [] []]) fun a b=>d a b c)
def s30_7:KR:=fun _ b c=>AV.ckOne (.fn (.func 96) [] []) (mR (s30_6 k a) fun d=>AV.ckStr (.str 8 7885649434211737955) fun _ _=>mapK [] b a (.str 8 7885649434211737955) (.agg [.fn (.func 96) [] []]) fun a b=>d a b c)
def s30_8:KR:=fun _ b c=>AV.ckOne (.fn (.func 93) [] []) (mR (s30_7 k a) fun d=>AV.ckStr (.str 7 32772496251117923) fun _ _=>mapK [] b a (.str 7 32772496251117923) (.agg [.fn (.func 93) [] []]) fun a b=>d a b c)
def s30_9:KR:=fun _ b c=>AV.ckOne (.fn (.func 90) [] []) (mR (s30_8 k a) fun d=>AV.ckStr (.str 2 26217) fun _ _=>mapK [] b a (.str 2 26217) (.agg [.fn (.func 90) [] []]) fun a b=>d a b c)
def s30_10:KR:=fun _ b c=>AV.ckOne (.fn (.func 89) [] []) (mR (s30_9 k a) fun d=>AV.ckStr (.str 4 1668248176) fun _ _=>mapK [] b a (.str 4 1668248176) (.agg [.fn (.func 89) [] []]) fun a b=>d a b c)
def s30_11:KR:=fun _ b c=>AV.ckOne (.fn (.func 86) [] []) (mR (s30_10 k a) fun d=>AV.ckStr (.str 5 435611006324) fun _ _=>mapK [] b a (.str 5 435611006324) (.agg [.fn (.func 86) [] []]) fun a b=>d a b c)
def s30_12:KR:=fun _ b c=>AV.ckOne (.fn (.func 84) [] []) (mR (s30_11 k a) fun d=>AV.ckStr (.str 4 1836020833) fun _ _=>mapK [] b a (.str 4 1836020833) (.agg [.fn (.func 84) [] []]) fun a b=>d a b c)
def s30_13:KR:=fun _ b c=>AV.ckOne (.fn (.func 82) [] []) (mR (s30_12 k a) fun d=>AV.ckStr (.str 3 7630441) fun _ _=>mapK [] b a (.str 3 7630441) (.agg [.fn (.func 82) [] []]) fun a b=>d a b c)
def s30_14:KR:=fun _ b c=>AV.ckOne (.fn (.func 79) [] []) (mR (s30_13 k a) fun d=>AV.ckStr (.str 4 1684957538) fun _ _=>mapK [] b a (.str 4 1684957538) (.agg [.fn (.func 79) [] []]) fun a b=>d a b c)
def s30_15:KR:=fun _ b c=>AV.ckOne (.fn (.func 77) [] []) (mR (s30_14 k a) fun d=>AV.ckStr (.str 5 465490374508) fun _ _=>mapK [] b a (.str 5 465490374508) (.agg [.fn (.func 77) [] []]) fun a b=>d a b c)
def s30_16:KR:=fun _ b c=>AV.ckOne (.fn (.func 75) [] []) (mR (s30_15 k a) fun d=>AV.ckStr (.str 3 7431539) fun _ _=>mapK [] b a (.str 3 7431539) (.agg [.fn (.func 75) [] []]) fun a b=>d a b c)
def s30(_:Nat):Hand:=fun _ _ a b c d=>arg0 a (mkmapE b c fun a b=>forceN (Nat.succ c) fun c=>AV.ckOne (.fn (.func 74) [] []) (mR (s30_16 d a) fun d=>AV.ckStr (.str 4 1885956979) fun _ _=>mapK [] b a (.str 4 1885956979) (.agg [.fn (.func 74) [] []]) fun a b=>d a b c))
theorem h30:HO 30 s30:=hO 0 (T2 L0 (T2 L0 L0)) Tryz.func30 Tryz.call30 fun N F G l H n k=>by kernel_rfl
def s32_0:KJ:=fun a b c=>arg1 a fun a _=>k a b c
def s32_1:KJ→KJ:=fun _ b c d=>arg1 b fun b e=>arg1 e fun e _=>lssI e a fun a=>cB a false (j [b] c d)
def s32_2:KQ:=fun a=>mJ (s32_0 k) fun b=>iterN n (s32_1 b a) [.bool true,I 0] H m
def s32(a:Nat):Hand:=fun b _ c d e f=>arg1 c fun c g=>arg0 g (nilK c (faddrK 5 c fun g=>loadK d g fun g=>AV.ckOk c (b 110 [g,.fn (.func 111) [c] []] d e fun b c d=>mQ (s32_2 c f a d) (lenSl b))))
theorem h32:HO 32 s32:=hO 1 (T2 L0 (T2 L0 (T2 (T2 L0 (.one [3] (.one [3,14] (T2 L0 (T2 (T2 .stop L0) .stop))))) (T2 L0 L0)))) Tryz.func32 Tryz.call32 fun N F G l H n k=>by kernel_rfl
def s33_0:KJ:=fun b c d=>arg1 b fun b _=>F 115 [b] c d fun b c d=>extK 0 b fun e=>extK 1 b fun _=>loadK c a fun b=>F 116 [b] c d fun b c d=>AV.ckOk (.ptr n 0) (AV.ckOk a (F 119 [b,e,.fn (.func 117) [] [.ptr n 0,a]] c d fun _ a c=>AV.ckOk b (AV.ckOk (I 0) (k (.tup [b,I 0]) a c))))
def s33_1:KJ:=fun b c d=>arg1 b fun b _=>addI a (I 1) fun a=>j [b,a] c d
def s33_2:KJ:=fun _ b c=>loadNK 4 b (.ptr n 0) fun d=>Ev.layK 0 4 true d [I 0,I 0,.str 0 0,.nils] fun d=>newK d b c fun b=>forceN (Nat.succ c) fun d=>mR (fun a b c=>j [a] b c) (appK 4 b d a (.sl c 0 1 (.known 1)))
def s33_3:KJ→KJ:=fun _ b c d=>arg1 b fun b _=>lssI b a fun a=>cB a false (j [] c d)
def s33_4:KQ:=fun b=>mJ (s33_2 j m a) fun a=>iterN n (s33_3 a b) [I 0] H N
def s33_5:KJ→KJ:=fun d e f g=>arg1 e fun e h=>arg1 h fun h _=>lssI h b fun b=>cB b (mJ (s33_1 d h) fun b=>iaddrK 1 a h fun a=>loadK f a fun a=>loadK f c fun c=>nilK c (faddrK 5 c fun c=>loadK f c fun c=>F 114 [c,a] f g fun a c d=>newK [I 0,I 0,.str 0 0,.nils] c d fun c=>forceN (Nat.succ d) fun f=>storeK 4 c (.ptr d 0) a fun _ a=>faddrK 3 (.ptr d 0) fun c=>loadK a c fun c=>mQ (s33_4 b a n d f e) (lenSl c))) (j [e] f g)
def s33_6:KQ:=fun c=>mJ (s33_0 F k m b) fun d=>iterN n (s33_5 F d n a c b) [.nils,I 0] H N
def s33_7:KJ:=fun _ c d=>mQ (s33_6 F c k n m d a b) (lenSl a)
def s33_8:KJ:=fun _ b c=>addI a (I 1) fun a=>j [a] b c
def s33_9:KJ→KJ:=fun c d e f=>arg1 d fun d _=>lssI d b fun b=>cB b (mJ (s33_8 c d) fun b=>iaddrK 1 a d fun a=>loadK e a fun a=>loadK e (.ptr n 0) fun c=>mR (fun _ a c=>b [] a c) fun b=>AV.ckNum a (mapK [] e c a d fun a c=>b a c f)) (j [] e f)
def s33_10:KQ:=fun c=>mJ (s33_7 F k n m a b) fun b=>iterN n (s33_9 b m a c) [I 0] H N
def s33_11:KR:=fun _ d e=>newK [.nilm] d e fun d=>forceN (Nat.succ e) fun f=>storeK 1 d (.ptr e 0) b fun _ b=>mQ (s33_10 F b k n e f a c) (lenSl a)
def s33_12:KJ:=fun _ c d=>loadK c b fun e=>F 113 [e,a] c d fun c d e=>notB c fun c=>cB c false (mkmapE d e fun c d=>forceN (Nat.succ e) fun e=>mR (s33_11 F k n a c b) fun a=>AV.ckNum (.int .i64 (.negSucc 0)) (mapK [] d c (.int .i64 (.negSucc 0)) (.int .i64 (.negSucc 0)) fun b c=>a b c e))
def s33_13:KJ:=fun b c d=>arg1 b fun b e=>arg1 e fun e f=>arg1 f fun f g=>arg1 g fun g h=>arg1 h fun h i=>arg1 i fun i l=>arg1 l fun l m=>arg1 m fun m o=>arg1 o fun o p=>arg1 p fun p q=>arg1 q fun q r=>arg1 r fun r s=>arg1 s fun s t=>arg1 t fun t _=>addI a (I 1) fun a=>j [a,b,e,f,g,h,i,l,m,o,p,q,r,s,t] c d
def s33_14:KR:=fun l m q=>pickK d fT l fun d=>cB d false (j [a,b,c,e,f,g,h,i,o,p,r,s,t,l] m q)
def s33_15:KR:=fun l m q=>jRn d m q (s33_14 j a b c d e f g h i o p r s l) fun a=>pickK g l fF fun b=>a b m q
def s33_16:KR:=fun l m q=>jR g m q (s33_15 j a b c d e f g h i o p r l) fun a=>leqI h l fun b=>a b m q
def s33_17:KR:=fun l m q=>jR g m q (s33_16 j a b c d e f g h i o p l) fun a=>loadK m l fun b=>a b m q
def s33_18:KR:=fun l m p=>jR g m p (s33_17 j a b c d e f g h i o l) fun a=>iaddrK 1 i l fun b=>a b m p
def s33_19:KR:=fun l m o=>jR g m o (s33_18 j a b c d e f g h i l) fun a=>subI l (I 1) fun b=>a b m o
def s33_20:KR:=fun l m o=>jR h m o (s33_19 j b c d e f g h i l) fun b=>b a m o
def s33_21:KR:=fun l m o=>jR i m o (s33_20 j a c d e f g h i l) fun a=>a b m o
def s33_22:KR:=fun l m o=>jR l m o (s33_21 j a b d e f g h i l) fun a=>a c m o
def s33_23:KR:=fun i l m=>jRn g l m (s33_22 j a b c d e f g h i) fun a=>a i l m
def s33_24:KR:=fun h i l=>jRn g i l (s33_23 j a b c d e f g h) fun a=>gtrI h (I 0) fun b=>a b i l
def s33_25:KR:=fun g h i=>pickK d fT g fun d=>jRn d h i (s33_24 j a b c e f g d) fun b=>b a h i
def s33_26:KR:=fun f g h=>jRn d g h (s33_25 j a b c d e f) fun a=>neqI e f fun b=>a b g h
def s33_27:KR:=fun e f g=>jRn d f g (s33_26 j a b c d e) fun a=>a c f g
def s33_28:KJ→KJ:=fun d e f g=>arg1 e fun e h=>arg1 h fun _ h=>arg1 h fun _ h=>arg1 h fun _ h=>arg1 h fun _ h=>arg1 h fun _ h=>arg1 h fun _ h=>arg1 h fun _ h=>arg1 h fun _ h=>arg1 h fun _ h=>arg1 h fun _ h=>arg1 h fun _ h=>arg1 h fun _ h=>arg1 h fun _ h=>arg1 h fun _ _=>lssI e a fun a=>cB a (mJ (s33_13 d e) fun a=>iaddrK 1 b e fun d=>loadK f d fun d=>loadK f c fun c=>nilK c (faddrK 5 c fun c=>loadK f c fun c=>nilK c (faddrK 0 c fun c=>loadK f c fun c=>F 112 [c,d] f g fun c f g=>extK 0 c fun h=>extK 1 c fun c=>neqI c (I 0) fun c=>jRn c f g (s33_27 a e b d c) fun a=>a h f g))) (j [] f g)
def s33_29:KQ:=fun c=>mJ (s33_12 F k n a b) fun d=>iterN n (s33_28 F d c a b) [I 0,.bad,.bad,.bad,.bad,.bad,.bad,.bad,.bad,.bad,.bad,.bad,.bad,.bad,.bad] H m
def s33(a:Nat):Hand:=fun b _ c d e f=>arg1 c fun c g=>arg1 g fun g h=>arg0 h (boxE c d e fun c d=>forceN (Nat.succ e) fun e=>loadK d c fun h=>b 25 [h] d e fun d e h=>notB d fun d=>cB d false (mQ (s33_29 b e f a h g c) (lenSl g)))
theorem h33:HO 33 s33:=hO 2 (T2 L0 (T2 (T2 L0 (T2 .stop L0)) (T2 (T2 L0 (.one [] (.one [28,48,49,50,53,54,55,56,57,58,59,60,61,62,63] (T2 L0 (T2 (T2 L0 L0) (T2 (.one [48,49,50,53,54,55,56,57,58,59,60,61,62,63] (T2 L0 (T2 L0 (T2 L0 (T2 .stop L0))))) L0)))))) (T2 (T2 L0 (T2 .stop L0)) (T2 L0 (T2 (T2 L0 (.one [] (.one [74] (T2 L0 (T2 (T2 L0 L0) (T2 (.one [] (T2 L0 L0)) L0)))))) (T2 L0 (T2 (T2 L0 (.one [13] (.one [13,85] (T2 L0 (T2 (T2 L0 L0) (T2 (.one [13] (T2 L0 (T2 L0 (T2 (T2 L0 (.one [] (.one [98] (T2 L0 (T2 (T2 .stop L0) .stop))))) L0)))) L0)))))) (T2 L0 (T2 L0 (T2 L0 (T2 L0 (T2 L0 L0))))))))))))) Tryz.func33 Tryz.call33 fun N F G l H n k=>by kernel_rfl
def s34(_:Nat):Hand:=fun a _ b c d e=>arg1 b fun b f=>arg0 f (a 121 [b] c d fun c d f=>AV.ckOk b (a 120 [c,.fn (.func 122) [b] []] d f fun b c d=>a 123 [b] c d fun _ a c=>e b a c))
theorem h34:HO 34 s34:=hO 1 (T2 L0 (T2 L0 (T2 L0 (T2 L0 L0)))) Tryz.func34 Tryz.call34 fun N F G l H n k=>by kernel_rfl
def s35(_:Nat):Hand:=fun _ _ a b c d=>arg1 a fun a e=>arg1 e fun e f=>arg0 f (nilK a (faddrK 7 a fun a=>loadK b a fun a=>iaddrK 1 a e fun a=>loadK b a fun a=>d a b c))
theorem h35:HO 35 s35:=hO 2 (T2 L0 (T2 L0 L0)) Tryz.func35 Tryz.call35 fun N F G l H n k=>by kernel_rfl
def s36_0:KJ:=fun _ a b=>k (I 0) a b
def s36(_:Nat):Hand:=fun a _ b c d e=>arg1 b fun b f=>arg1 f fun f g=>arg0 g (boxE b c d fun b c=>forceN (Nat.succ d) fun d=>mJ (s36_0 e) fun e=>loadK c b fun g=>a 27 [g] c d fun c d g=>notB c fun c=>cB c false (AV.ckOk b (a 64 [f,.fn (.func 124) [] [b]] d g fun a b c=>cB a false (e [] b c))))
theorem h36:HO 36 s36:=hO 2 (T2 L0 (T2 (.one [] (T2 L0 (T2 .stop (T2 L0 (T2 .stop L0))))) (T2 L0 L0))) Tryz.func36 Tryz.call36 fun N F G l H n k=>by kernel_rfl
def s37_0:KJ:=fun _ a b=>loadNK 4 a (.ptr m 0) fun c=>storeK 4 a (.ptr n 0) c fun _ a=>loadNK 4 a (.ptr n 0) fun c=>k c a b
def s37_1:KJ→KJ:=fun _ b c d=>arg1 b fun b _=>lssI b a fun a=>cB a false (j [] c d)
def s37_2:KQ:=fun a=>mJ (s37_0 k m n1) fun b=>iterN n (s37_1 b a) [I 0] H N
def s37(a:Nat):Hand:=fun b _ c d e f=>arg1 c fun c g=>arg1 g fun g h=>arg0 h (newK [I 0,I 0,.str 0 0,.nils] d e fun d=>forceN (Nat.succ e) fun h=>nilK c (faddrK 1 c fun c=>loadK d c fun c=>iaddrK 4 c g fun c=>loadNK 4 d c fun c=>newK [I 0,I 0,.str 0 0,.nils] d h fun d=>forceN (Nat.succ h) fun g=>storeK 4 d (.ptr h 0) c fun _ c=>faddrK 3 (.ptr h 0) fun d=>loadK c d fun d=>b 67 [d] c g fun b c d=>faddrK 3 (.ptr h 0) fun g=>storeK 1 c g b fun _ b=>faddrK 3 (.ptr h 0) fun c=>loadK b c fun c=>mQ (s37_2 b f a e d h) (lenSl c)))
theorem h37:HO 37 s37:=hO 2 (T2 L0 (T2 L0 (T2 L0 (T2 (T2 L0 (.one [] (.one [22] (T2 L0 (T2 (T2 .stop L0) .stop))))) (T2 L0 L0))))) Tryz.func37 Tryz.call37 fun N F G l H n k=>by kernel_rfl
def s38_0:KJ:=fun a b c=>arg1 a fun a _=>k a b c
def s38_1:KJ:=fun a b c=>arg1 a fun a _=>j [a] b c
def s38_2:KJ→KJ:=fun b c d e=>arg1 c fun c _=>nilK a (faddrK 2 a fun f=>loadK d f fun f=>iaddrK 1 f c fun f=>loadK d f fun f=>neqI f c fun f=>cB f (mJ (s38_1 b) fun b=>nilK a (faddrK 2 a fun a=>loadK d a fun a=>iaddrK 1 a c fun a=>loadK d a fun a=>b [a] d e)) (j [c] d e))
def s38(a:Nat):Hand:=fun _ _ b c d e=>arg1 b fun b f=>arg1 f fun f g=>arg0 g (mJ (s38_0 e) fun e=>iterN a (s38_2 e b) [f] c d)
theorem h38:HO 38 s38:=hO 2 (T2 L0 (T2 (.one [1] (.one [1] (T2 (T2 L0 (T2 L0 L0)) (.one [1] L0)))) (T2 L0 L0))) Tryz.func38 Tryz.call38 fun N F G l H n k=>by kernel_rfl
def s39_0:KR:=fun b c d=>pickK a b fF fun a=>k a c d
def s39_1:KR:=fun c d e=>jR a d e (s39_0 k a) fun a=>lssI b c fun b=>a b d e
def s39_2:KR:=fun c d e=>jR a d e (s39_1 k a b) fun a=>mQ (fun b=>a b d e) (lenSl c)
def s39_3:KR:=fun c d e=>jR a d e (s39_2 k a b) fun a=>loadK d c fun b=>a b d e
def s39_4:KR:=fun c d e=>jR a d e (s39_3 k a b) fun a=>faddrK 6 c fun b=>a b d e
def s39_5:KR:=fun c d e=>jR a d e (s39_4 k a b) fun a=>nilK c (a c d e)
def s39_6:KR:=fun c d e=>jR b d e (s39_5 k b c) fun b=>b a d e
def s39_7:KR:=fun d e f=>pickK c d fF fun c=>jR c e f (s39_6 k a c) fun a=>a b e f
def s39_8:KR:=fun d e f=>jR c e f (s39_7 k a b c) fun a=>geqI d (I 0) fun b=>a b e f
def s39(_:Nat):Hand:=fun a _ b c d e=>arg1 b fun b f=>arg1 f fun f g=>arg0 g (a 25 [b] c d fun a c d=>jR a c d (s39_8 e b f a) fun a=>a f c d)
theorem h39:HO 39 s39:=hO 2 (T2 L0 (T2 L0 L0)) Tryz.func39 Tryz.call39 fun N F G l H n k=>by kernel_rfl
def s40_0:KQ:=fun c=>subI c (I 1) fun c=>iaddrK 3 b c fun b=>faddrK 0 b fun b=>faddrK 0 b fun b=>loadK H b fun b=>iaddrK 6 a b fun a=>faddrK 0 a fun a=>loadK H a fun a=>k a H n
def s40_1:KQ:=fun d=>pickK c fT d fun c=>cB c false (nilK a (faddrK 0 a fun a=>faddrK 0 a fun a=>loadK H a fun a=>nilK b (faddrK 0 b fun c=>loadK H c fun c=>nilK b (faddrK 0 b fun b=>loadK H b fun b=>mQ (s40_0 H k n a c) (lenSl b)))))
def s40_2:KQ:=fun d=>jQn c (s40_1 H k n a b c) (loadK H d)
def s40_3:KQ:=fun d=>jQn c (s40_2 H k n a b c) (faddrK 2 d)
def s40_4:KQ:=fun e=>jQn d (s40_3 H k n a c d) (iaddrK 3 b e)
def s40_5:KQ:=fun e=>jQn d (s40_4 H k n a b c d) (subI e (I 1))
def s40_6:KQ:=fun e=>jQn d (s40_5 H k n a b c d) fun a=>mQ a (lenSl e)
def s40_7:KQ:=fun e=>jQn d (s40_6 H k n a b c d) (loadK H e)
def s40_8:KQ:=fun e=>jQn d (s40_7 H k n a b c d) (faddrK 0 e)
def s40_9:KQ:=fun e=>jQn d (s40_8 H k n a b c d) fun a=>nilK e (a e)
def s40_10:KQ:=fun d=>jQn c (s40_9 H k n a d b c) fun a=>a b
def s40_11:KQ:=fun d=>jQn c (s40_10 H k n a b c) (loadK H d)
def s40_12:KQ:=fun d=>jQn c (s40_11 H k n a b c) (faddrK 0 d)
def s40_13:KQ:=fun d=>jQn c (s40_12 H k n a b c) fun a=>nilK d (a d)
def s40_14:KQ:=fun c=>eqlI c (I 0) fun c=>jQn c (s40_13 H k n a b c) fun a=>a b
def s40(_:Nat):Hand:=fun _ _ a b c d=>arg1 a fun a e=>arg1 e fun e f=>arg0 f (nilK e (faddrK 0 e fun f=>loadK b f fun f=>mQ (s40_14 b d c a e) (lenSl f)))
theorem h40:HO 40 s40:=hO 2 (T2 L0 (T2 (T2 L0 (T2 .stop L0)) (T2 L0 L0))) Tryz.func40 Tryz.call40 fun N F G l H n k=>by kernel_rfl
def s41_0:KQ:=fun b=>pickK a b fF fun a=>k a H n
def s41_1:KR:=fun b c d=>jQ a (s41_0 c k d a) (neqI b (.int .i64 (.negSucc 0)))
def s41_2:KQ:=fun c=>jR b H n (s41_1 k b) (F 126 [a,c] H n)
def s41_3:KQ:=fun c=>jQ b (s41_2 F H k n a b) (loadK H c)
def s41_4:KQ:=fun c=>jQ b (s41_3 F H k n a b) (faddrK 1 c)
def s41_5:KQ:=fun c=>jQ b (s41_4 F H k n a b) fun a=>nilK c (a c)
def s41_6:KQ:=fun c=>jQ b (s41_5 F H k n c b) fun b=>b a
def s41_7:KQ:=fun c=>jQ b (s41_6 F H k n a b) (loadK H c)
def s41_8:KQ:=fun c=>jQ b (s41_7 F H k n a b) (faddrK 5 c)
def s41_9:KQ:=fun c=>jQ b (s41_8 F H k n a b) fun a=>nilK c (a c)
def s41(_:Nat):Hand:=fun a _ b c d e=>arg1 b fun b f=>arg1 f fun f g=>arg0 g (nilK f (faddrK 1 f fun g=>loadK c g fun g=>neqI g (.int .i64 (.negSucc 0)) fun g=>jQ g (s41_9 a c e d f g) fun a=>a b))
theorem h41:HO 41 s41:=hO 2 (T2 L0 (T2 L0 L0)) Tryz.func41 Tryz.call41 fun N F G l H n k=>by kernel_rfl
def s42_0:KJ:=fun _ c d=>AV.ckOk a (AV.ckOk b (k (.tup [a,b]) c d))
def s42_1:KJ:=fun _ b c=>addI a (I 1) fun a=>j [a] b c
def s42_2:KQ:=fun e=>remI d e fun d=>iaddrK 1 c d fun c=>loadK H c fun c=>F 10 [a,c] H n fun _ a d=>F 129 [b,c] a d fun _ a b=>j [] a b
def s42_3:KQ:=fun f=>eqlI f (I 0) fun f=>cB f (j [] H n) (iaddrK 1 a d fun a=>loadK H a fun a=>convI .i64 a fun a=>mQ (s42_2 F J H n b c e a) (lenSl e))
def s42_4:KQ:=fun e=>lssI d e fun e=>cB e (mJ (s42_1 J d) fun e=>F 128 [c] H n fun f g h=>mQ (s42_3 F j e g h a b c d f) (lenSl f)) (j [] H n)
def s42_5:KJ→KJ:=fun d e f g=>arg1 e fun e _=>mQ (s42_4 F j d f g a b c e) (lenSl a)
def s42_6:KR:=fun e f g=>pickK d fT e fun d=>cB d false (mJ (s42_0 k b c) fun d=>iterN n (s42_5 F d a b c) [I 0] f g)
def s42_7:KR:=fun e f g=>jRn d f g (s42_6 F k n a b c d) fun a=>neqI e (I 0) fun b=>a b f g
def s42_8:KR:=fun c d e=>pickK a fT c fun a=>cB a false (loadNK 4 d (.ptr m 0) fun a=>F 6 [a] d e fun a c d=>extK 0 a fun e=>extK 1 a fun a=>loadNK 4 c (.ptr m 0) fun f=>F 127 [f] c d fun c d f=>extK 0 c fun g=>extK 1 c fun c=>neqI a (I 0) fun a=>jRn a d f (s42_7 F k n b e g a) fun a=>a c d f)
def s42_9:KR:=fun c d e=>jRn a d e (s42_8 F k n m a b) fun a=>gtrI c (I 400) fun b=>a b d e
def s42_10:KR:=fun c d e=>jRn a d e (s42_9 F k n m a b) fun a=>mQ (fun b=>a b d e) (lenSl c)
def s42(a:Nat):Hand:=fun b _ c d e f=>arg1 c fun c g=>arg1 g fun g h=>arg0 h (b 4 [c] d e fun c d e=>extK 0 c fun h=>extK 1 c fun c=>newK [.nils,.nils,I 0,I 0] d e fun d=>forceN (Nat.succ e) fun i=>storeK 4 d (.ptr e 0) h fun _ d=>notB c fun c=>jRn c d i (s42_10 b f a e c g) fun a=>a g d i)
theorem h42:HO 42 s42:=hO 2 (T2 L0 (T2 L0 (T2 (T2 L0 (T2 .stop L0)) (T2 L0 (T2 L0 (T2 (T2 L0 (T2 .stop L0)) (T2 (T2 L0 (.one [] (.one [12] (T2 (T2 L0 (T2 L0 L0)) (T2 (.one [] (T2 L0 (T2 (T2 L0 (T2 L0 L0)) (T2 L0 (T2 L0 L0))))) L0))))) (T2 L0 L0)))))))) Tryz.func42 Tryz.call42 fun N F G l H n k=>by kernel_rfl
def s43_0:KQ:=fun b=>subI a b fun a=>AV.ckOk a (AV.ckOk (I 0) (k (.tup [a,I 0]) H n))
def s43(_:Nat):Hand:=fun a _ b c d e=>arg1 b fun b f=>arg0 f (a 28 [b] c d fun c d f=>eqlI c (I 0) fun c=>cB c false (a 7 [b] d f fun c d f=>a 8 [c] d f fun c d f=>a 34 [b] d f fun a b d=>mQ (s43_0 b e d c) (lenSl a)))
theorem h43:HO 43 s43:=hO 1 (T2 L0 (T2 (T2 L0 (T2 .stop L0)) (T2 L0 L0))) Tryz.func43 Tryz.call43 fun N F G l H n k=>by kernel_rfl
def s44(_:Nat):Hand:=fun a _ b c d e=>arg1 b fun b f=>arg0 f (a 28 [b] c d fun c d f=>eqlI c (I 0) fun c=>cB c false (a 34 [b] d f fun a b c=>AV.ckOk a (AV.ckOk (I 0) (e (.tup [a,I 0]) b c))))
theorem h44:HO 44 s44:=hO 1 (T2 L0 (T2 (T2 L0 (T2 .stop L0)) (T2 L0 L0))) Tryz.func44 Tryz.call44 fun N F G l H n k=>by kernel_rfl
def s45(_:Nat):Hand:=fun a _ b c d e=>arg1 b fun b f=>arg0 f (a 25 [b] c d fun a c d=>notB a fun a=>cB a false (nilK b (faddrK 8 b fun a=>loadK c a fun a=>e a c d)))
theorem h45:HO 45 s45:=hO 1 (T2 L0 (T2 (T2 L0 (T2 .stop L0)) (T2 L0 L0))) Tryz.func45 Tryz.call45 fun N F G l H n k=>by kernel_rfl
def s46_0:KR:=fun b c d=>pickK a fT b fun a=>cB a false (loadNK 4 c (.ptr m 0) fun a=>F 47 [a,I 40] c d fun a b c=>cB a false (loadNK 4 b (.ptr m 0) fun a=>storeK 4 b (.ptr n 0) a fun _ a=>loadNK 4 a (.ptr n 0) fun b=>AV.ckOk b (AV.ckOk (I 0) (k (.tup [b,I 0]) a c))))
def s46_1:KR:=fun c d e=>jRn a d e (s46_0 F k n m a) fun a=>lssI b c fun b=>a b d e
def s46_2:KR:=fun c d e=>jRn a d e (s46_1 F k n m a b) fun a=>mQ (fun b=>a b d e) (lenSl c)
def s46_3:KR:=fun c d e=>jRn a d e (s46_2 F k n m a c) fun a=>a b d e
def s46_4:KR:=fun c d e=>jRn a d e (s46_3 F k n m a b) fun a=>loadK d c fun b=>a b d e
def s46_5:KR:=fun c d e=>jRn a d e (s46_4 F k n m a b) fun a=>faddrK 1 c fun b=>a b d e
def s46_6:KR:=fun c d e=>jRn a d e (s46_5 F k n m a b) fun a=>nilK c (a c d e)
def s46_7:KR:=fun d e f=>pickK a d fF fun a=>cB a false (AV.ckOne c (boxE (.agg [c,I 0,.bool false]) e f fun a d=>forceN (Nat.succ f) fun e=>newK [.str 0 0,.str 0 0,I 0,.nils] d e fun d=>forceN (Nat.succ e) fun f=>cB b false (F 132 [a] d f fun b d f=>storeK 4 d (.ptr e 0) b fun _ b=>nilK a (faddrK 2 a fun d=>loadK b d fun d=>jRn d b f (s46_6 F k n e d c) fun c=>c a b f))))
def s46_8:KR:=fun d e f=>jR a e f (s46_7 F k n a b c) fun a=>notB d fun b=>a b e f
def s46_9:KQ:=fun c=>eqlI c (I 0) fun c=>jR c H m (s46_8 F k n c a b) fun b=>b a H m
def s46(_:Nat):Hand:=fun a _ b c d e=>arg1 b fun b f=>arg1 f fun f g=>arg0 g (newK [.str 0 0,.str 0 0,I 0,.nils] c d fun c=>forceN (Nat.succ d) fun g=>a 130 [b] c g fun b c g=>extK 0 b fun h=>extK 1 b fun _=>extK 2 b fun b=>neqI b (I 0) fun b=>cB b false (mQ (s46_9 a c e d g f h) (lenSl h)))
theorem h46:HO 46 s46:=hO 2 (T2 L0 (T2 L0 (T2 (T2 L0 (T2 .stop L0)) (T2 (T2 L0 (T2 .stop L0)) (T2 L0 (T2 L0 (T2 (T2 L0 (T2 .stop L0)) (T2 (T2 L0 (T2 .stop L0)) (T2 (T2 L0 (T2 .stop L0)) (T2 L0 L0)))))))))) Tryz.func46 Tryz.call46 fun N F G l H n k=>by kernel_rfl
def s47_0:KJ:=fun _ b c=>addI a (I 1) fun a=>j [a] b c
def s47_1:KQ:=fun d=>lssI a d fun d=>cB d (mJ (s47_0 J a) fun d=>faddrK 3 c fun c=>loadK H c fun c=>iaddrK 4 c a fun a=>loadNK 4 H a fun a=>subI b (I 1) fun b=>F 47 [a,b] H n fun a b c=>cB a false (d [] b c)) (j [] H n)
def s47_2:KJ→KJ:=fun c d e f=>arg1 d fun d _=>faddrK 3 b fun g=>loadK e g fun g=>mQ (s47_1 F j c e f d a b) (lenSl g)
def s47(a:Nat):Hand:=fun b _ c d e f=>arg1 c fun c g=>arg1 g fun g h=>arg0 h (boxE c d e fun c d=>forceN (Nat.succ e) fun e=>eqlI g (I 0) fun h=>cB h false (mJ (fun _ a b=>f fF a b) fun f=>iterN a (s47_2 b f g c) [I 0] d e))
theorem h47:HO 47 s47:=hO 2 (T2 L0 (T2 (T2 L0 (T2 .stop L0)) (T2 (T2 L0 (.one [] (.one [5] (T2 (T2 L0 (T2 L0 L0)) (T2 (.one [] (T2 L0 (T2 .stop L0))) L0))))) (T2 L0 L0)))) Tryz.func47 Tryz.call47 fun N F G l H n k=>by kernel_rfl
def s48_0:KR:=fun b c d=>pickK a b fF fun a=>k a c d
def s48_1:KR:=fun b c d=>jR a c d (s48_0 k a) (F 133 [b] c d)
def s48_2:KR:=fun b c d=>jR a c d (s48_1 F k a) fun a=>loadK c b fun b=>a b c d
def s48_3:KJ:=fun _ c d=>geqI b (I 2) fun b=>jR b c d (s48_2 F k b) fun b=>faddrK 3 a fun a=>b a c d
def s48_4:KJ:=fun _ b c=>addI a (I 1) fun a=>j [a] b c
def s48_5:KJ→KJ:=fun c d e f=>arg1 d fun d _=>lssI d b fun b=>cB b (mJ (s48_4 c d) fun b=>faddrK 3 a fun a=>loadK e a fun a=>iaddrK 4 a d fun a=>faddrK 0 a fun a=>loadK e a fun a=>strB .eql a (.str 3 7431539) fun a=>cB a false (b [] e f)) (j [] e f)
def s48_6:KR:=fun b c d=>pickK a b fF fun a=>k a c d
def s48_7:KR:=fun b c d=>jR a c d (s48_6 k a) (F 48 [b] c d)
def s48_8:KR:=fun b c d=>jR a c d (s48_7 F k a) fun a=>loadNK 4 c b fun b=>a b c d
def s48_9:KR:=fun c d e=>jR a d e (s48_8 F k a) fun a=>iaddrK 4 b c fun b=>a b d e
def s48_10:KR:=fun c d e=>jR a d e (s48_9 F k a b) fun a=>subI c (I 1) fun b=>a b d e
def s48_11:KR:=fun c d e=>jR a d e (s48_10 F k a c) fun a=>a b d e
def s48_12:KR:=fun c d e=>jR a d e (s48_11 F k a b) fun a=>loadK d c fun b=>a b d e
def s48_13:KR:=fun d e f=>pickK a d fF fun a=>jR a e f (s48_12 F k a c) fun a=>faddrK 3 b fun b=>a b e f
def s48_14:KR:=fun d e f=>jR a e f (s48_13 F k a b c) (F 134 [d,.bool true] e f)
def s48_15:KR:=fun e f g=>jR a f g (s48_14 F k a c d) fun a=>mQ (fun b=>a b f g) (sliceK 4 b none (some e))
def s48_16:KR:=fun e f g=>jR a f g (s48_15 F k a b c d) fun a=>subI e (I 1) fun b=>a b f g
def s48_17:KR:=fun d e f=>jR a e f (s48_16 F k a d b c) fun a=>a c e f
def s48_18:KR:=fun d e f=>jR a e f (s48_17 F k a b c) fun a=>loadK e d fun b=>a b e f
def s48_19:KR:=fun b c d=>pickK a b fF fun a=>k a c d
def s48_20:KR:=fun b c d=>jR a c d (s48_19 k a) (F 135 [b] c d)
def s48_21:KR:=fun b c d=>jR a c d (s48_20 F k a) fun a=>loadK c b fun b=>a b c d
def s48_22:KR:=fun b c d=>pickK a b fF fun a=>k a c d
def s48_23:KR:=fun b c d=>jR a c d (s48_22 k a) (F 133 [b] c d)
def s48_24:KR:=fun b c d=>jR a c d (s48_23 F k a) fun a=>mQ (fun b=>a b c d) (sliceK 4 b (some (I 1)) none)
def s48_25:KR:=fun b c d=>jR a c d (s48_24 F k a) fun a=>loadK c b fun b=>a b c d
def s48_26:KR:=fun c d e=>pickK b c fF fun b=>jR b d e (s48_25 F k b) fun b=>faddrK 3 a fun a=>b a d e
def s48_27:KR:=fun c d e=>jR b d e (s48_26 F k a b) (F 136 [c] d e)
def s48_28:KR:=fun c d e=>jR b d e (s48_27 F k a b) fun a=>loadNK 4 d c fun b=>a b d e
def s48_29:KR:=fun c d e=>jR b d e (s48_28 F k a b) fun a=>iaddrK 4 c (I 0) fun b=>a b d e
def s48_30:KR:=fun c d e=>jR b d e (s48_29 F k a b) fun a=>loadK d c fun b=>a b d e
def s48_31:KR:=fun b c d=>pickK a b fF fun a=>k a c d
def s48_32:KR:=fun b c d=>jR a c d (s48_31 k a) (F 135 [b] c d)
def s48_33:KR:=fun b c d=>jR a c d (s48_32 F k a) fun a=>loadK c b fun b=>a b c d
def s48_34:KR:=fun b c d=>pickK a b fF fun a=>k a c d
def s48_35:KR:=fun b c d=>jR a c d (s48_34 k a) (F 48 [b] c d)
def s48_36:KR:=fun b c d=>jR a c d (s48_35 F k a) fun a=>loadNK 4 c b fun b=>a b c d
def s48_37:KR:=fun c d e=>jR a d e (s48_36 F k a) fun a=>iaddrK 4 b c fun b=>a b d e
def s48_38:KR:=fun c d e=>jR a d e (s48_37 F k a b) fun a=>subI c (I 1) fun b=>a b d e
def s48_39:KR:=fun c d e=>jR a d e (s48_38 F k a c) fun a=>a b d e
def s48_40:KR:=fun c d e=>jR a d e (s48_39 F k a b) fun a=>loadK d c fun b=>a b d e
def s48_41:KR:=fun d e f=>pickK b d fF fun b=>jR b e f (s48_40 F k b c) fun b=>faddrK 3 a fun a=>b a e f
def s48_42:KR:=fun d e f=>jR b e f (s48_41 F k a b c) (F 134 [d,.bool false] e f)
def s48_43:KR:=fun e f g=>jR b f g (s48_42 F k a b d) fun a=>mQ (fun b=>a b f g) (sliceK 4 c none (some e))
def s48_44:KR:=fun e f g=>jR b f g (s48_43 F k a b c d) fun a=>subI e (I 1) fun b=>a b f g
def s48_45:KR:=fun d e f=>jR b e f (s48_44 F k a b d c) fun a=>a c e f
def s48_46:KR:=fun d e f=>jR b e f (s48_45 F k a b c) fun a=>loadK e d fun b=>a b e f
def s48_47:KR:=fun d e f=>pickK b d fF fun b=>jR b e f (s48_46 F k a b c) fun b=>faddrK 3 a fun a=>b a e f
def s48_48:KR:=fun d e f=>jR b e f (s48_47 F k a b c) fun a=>geqI d (I 1) fun b=>a b e f
def s48_49:KR:=fun b c d=>pickK a b fF fun a=>k a c d
def s48_50:KR:=fun b c d=>jR a c d (s48_49 k a) (F 133 [b] c d)
def s48_51:KR:=fun b c d=>jR a c d (s48_50 F k a) fun a=>loadK c b fun b=>a b c d
def s48_52:KR:=fun d e f=>pickK a fT d fun a=>cB a false (faddrK 0 b fun a=>loadK e a fun a=>mJ (fun _ _ _=>false) fun _=>strB .eql a (.str 4 1885956979) fun d=>cB d false (strB .eql a (.str 3 7431539) fun d=>cB d (mJ (s48_3 F k b c) fun a=>iterN n (s48_5 a b c) [I 0] e f) (strB .eql a (.str 5 465490374508) fun d=>cB d (geqI c (I 2) fun a=>jR a e f (s48_18 F k a b c) fun a=>faddrK 3 b fun b=>a b e f) (strB .eql a (.str 2 29029) fun d=>cB d (eqlI c (I 2) fun a=>jR a e f (s48_21 F k a) fun a=>faddrK 3 b fun b=>a b e f) (strB .eql a (.str 2 26217) fun d=>cB d (eqlI c (I 3) fun a=>jR a e f (s48_30 F k b a) fun a=>faddrK 3 b fun b=>a b e f) (strB .eql a (.str 5 521510350945) fun d=>cB d (geqI c (I 1) fun a=>jR a e f (s48_33 F k a) fun a=>faddrK 3 b fun b=>a b e f) (strB .eql a (.str 4 1668248176) fun d=>cB d (faddrK 1 b fun a=>loadK e a fun a=>F 50 [a] e f fun a d e=>jR a d e (s48_48 F k b a c) fun a=>a c d e) (strB .eql a (.str 3 7239014) fun d=>cB d false (strB .eql a (.str 4 2038063468) fun d=>cB d false (strB .eql a (.str 6 110369476601972) fun a=>cB a (eqlI c (I 1) fun a=>jR a e f (s48_51 F k a) fun a=>faddrK 3 b fun b=>a b e f) false))))))))))
def s48_53:KR:=fun e f g=>jRn a f g (s48_52 F k n a b d) fun a=>pickK c e fF fun b=>a b f g
def s48_54:KR:=fun e f g=>jR c f g (s48_53 F k n a b c d) fun a=>strB .neq e (.str 0 0) fun b=>a b f g
def s48_55:KR:=fun e f g=>jR c f g (s48_54 F k n a b c d) fun a=>loadK f e fun b=>a b f g
def s48_56:KR:=fun d e f=>jR d e f (s48_55 F k n a b d c) fun a=>faddrK 1 b fun b=>a b e f
def s48_57:KR:=fun d e f=>jRn a e f (s48_56 F k n a b c) fun a=>a d e f
def s48_58:KR:=fun e f g=>jRn a f g (s48_57 F k n a b d) fun a=>pickK c e fF fun b=>a b f g
def s48_59:KR:=fun e f g=>jR c f g (s48_58 F k n a b c d) fun a=>strB .neq e (.str 4 2038063468) fun b=>a b f g
def s48_60:KR:=fun e f g=>jR c f g (s48_59 F k n a b c d) fun a=>loadK f e fun b=>a b f g
def s48_61:KR:=fun d e f=>jR d e f (s48_60 F k n a b d c) fun a=>faddrK 0 b fun b=>a b e f
def s48_62:KR:=fun d e f=>jRn a e f (s48_61 F k n a b c) fun a=>a d e f
def s48_63:KR:=fun e f g=>jRn a f g (s48_62 F k n a b d) fun a=>pickK c e fF fun b=>a b f g
def s48_64:KR:=fun e f g=>jR c f g (s48_63 F k n a b c d) fun a=>strB .neq e (.str 3 7239014) fun b=>a b f g
def s48_65:KR:=fun e f g=>jR c f g (s48_64 F k n a b c d) fun a=>loadK f e fun b=>a b f g
def s48_66:KR:=fun d e f=>jR d e f (s48_65 F k n a b d c) fun a=>faddrK 0 b fun b=>a b e f
def s48_67:KR:=fun d e f=>jRn a e f (s48_66 F k n a b c) fun a=>a d e f
def s48_68:KR:=fun d e f=>jRn a e f (s48_67 F k n a b c) fun a=>strB .neq d (.str 4 1668248176) fun b=>a b e f
def s48_69:KR:=fun d e f=>jRn a e f (s48_68 F k n a b c) fun a=>loadK e d fun b=>a b e f
def s48_70:KQ:=fun b=>faddrK 2 a fun c=>loadK H c fun c=>neqI c (I 0) fun c=>jRn c H m (s48_69 F k n c a b) fun b=>faddrK 0 a fun a=>b a H m
def s48(a:Nat):Hand:=fun b _ c d e f=>arg1 c fun c g=>arg0 g (boxE c d e fun c d=>forceN (Nat.succ e) fun e=>faddrK 3 c fun g=>loadK d g fun g=>mQ (s48_70 b d f a e c) (lenSl g))
theorem h48:HO 48 s48:=hO 1 (T2 L0 (T2 L0 (T2 (T2 L0 (T2 .stop L0)) (T2 (T2 L0 (.one [] (T2 L0 (T2 .stop (T2 L0 (T2 (T2 (T2 L0 (.one [] (.one [4] (T2 (T2 L0 (T2 L0 L0)) (T2 (.one [] (T2 L0 (T2 .stop L0))) L0))))) (T2 L0 L0)) (T2 L0 (T2 (T2 L0 L0) (T2 L0 (T2 (T2 L0 L0) (T2 L0 (T2 (T2 L0 L0) (T2 L0 (T2 (T2 L0 L0) (T2 L0 (T2 (T2 L0 L0) (T2 (T2 L0 (T2 .stop L0)) (T2 .stop (T2 L0 (T2 (T2 L0 L0) .stop)))))))))))))))))))) .stop)))) Tryz.func48 Tryz.call48 fun N F G l H n k=>by kernel_rfl
def s49(_:Nat):Hand:=fun _ _ a b c d=>arg0 a (AV.ckOne (.str 4 1953063255) (AV.ckOne (.str 5 499915191113) (AV.ckOne (.str 7 30518479664145742) (AV.ckOne (.str 8 7306930285074151493) (AV.ckOne (.str 7 32776919715374414) (AV.ckOne (.str 4 1684956499) (AV.ckOne (.str 4 2003789907) (AV.ckOne (.str 5 465557414220) (AV.ckOne (.str 5 448629336407) (AV.ckOne (.str 3 6779457) (newK [.str 4 1953063255,.str 5 499915191113,.str 7 30518479664145742,.str 8 7306930285074151493,.str 7 32776919715374414,.str 4 1684956499,.str 4 2003789907,.str 5 465557414220,.str 5 448629336407,.str 3 6779457] b c fun a=>forceN (Nat.succ c) (d (.sl c 0 10 (.known 10)) a))))))))))))
theorem h49:HO 49 s49:=hO 0 (T2 L0 (T2 L0 L0)) Tryz.func49 Tryz.call49 fun N F G l H n k=>by kernel_rfl
def s50_0:KR:=fun b c d=>pickK a b fF fun a=>k a c d
def s50_1:KR:=fun b c d=>jR a c d (s50_0 k a) fun a=>leqI b (.int .u8 (.ofNat 90)) fun b=>a b c d
def s50_2:KR:=fun b c d=>jR a c d (s50_1 k a) fun a=>indexStrK b (I 0) fun b=>a b c d
def s50_3:KR:=fun c d e=>pickK b c fF fun b=>jR b d e (s50_2 k b) fun b=>b a d e
def s50_4:KR:=fun c d e=>jR b d e (s50_3 k a b) fun a=>geqI c (.int .u8 (.ofNat 65)) fun b=>a b d e
def s50_5:KR:=fun c d e=>jR b d e (s50_4 k a b) fun a=>indexStrK c (I 0) fun b=>a b d e
def s50(_:Nat):Hand:=fun a _ b c d e=>arg1 b fun b f=>arg0 f (a 138 [b] c d fun a c d=>jR a c d (s50_5 e b a) fun a=>a b c d)
theorem h50:HO 50 s50:=hO 1 (T2 L0 (T2 L0 L0)) Tryz.func50 Tryz.call50 fun N F G l H n k=>by kernel_rfl
def s51_0:KR:=fun b c d=>nilK a (faddrK 4 a fun a=>storeK 1 c a b fun _ a=>j [] a d)
def s51_1:KQ:=fun c=>subI c (I 1) fun c=>mJ (fun _ a b=>k c a b) fun d=>strB .neq b (.str 0 0) fun b=>cB b (nilK a (faddrK 4 a fun b=>loadK H b fun b=>AV.ckOne c (newK [c] H n fun c=>forceN (Nat.succ n) fun e=>mR (s51_0 d a) (appK 1 c e b (.sl n 0 1 (.known 1)))))) (d [] H n)
def s51_2:KR:=fun c d e=>nilK a (faddrK 0 a fun f=>faddrK 1 f fun f=>storeK 1 d f c fun _ c=>nilK a (faddrK 0 a fun d=>faddrK 1 d fun d=>loadK c d fun d=>mQ (s51_1 c k e a b) (lenSl d)))
def s51(_:Nat):Hand:=fun _ _ a b c d=>arg1 a fun a e=>arg1 e fun e f=>arg0 f (nilK a (faddrK 0 a fun f=>faddrK 1 f fun f=>loadK b f fun f=>AV.ckOne e (newK [e] b c fun b=>forceN (Nat.succ c) fun g=>mR (s51_2 d a e) (appK 1 b g f (.sl c 0 1 (.known 1))))))
theorem h51:HO 51 s51:=hO 2 (T2 L0 (T2 L0 (T2 L0 (.join [] (T2 L0 (T2 L0 L0)) (T2 L0 L0))))) Tryz.func51 Tryz.call51 fun N F G l H n k=>by kernel_rfl
def s52_0:KJ:=fun _ c d=>faddrK 3 b fun e=>loadK c e fun e=>F 144 [a,e] c d fun c d e=>extK 0 c fun f=>extK 1 c fun c=>F 145 [a,c] d e fun d e g=>faddrK 0 b fun b=>loadK e b fun b=>AV.ckOne b (AV.ckOne f (F 139 [a,.agg [b,f,.str 0 0,I 0,.nils,.nils]] e g fun b e f=>F 147 [a,c,d,b] e f k))
def s52_1:KJ:=fun c d e=>arg1 c fun c _=>faddrK 0 b fun b=>loadK d b fun b=>AV.ckOne b (AV.ckOne c (F 139 [a,.agg [b,.nils,.str 0 0,I 0,c,.nils]] d e k))
def s52_2:KJ:=fun b c d=>arg1 b fun b _=>addI a (I 1) fun a=>j [b,a] c d
def s52_3:KQ:=fun e=>lssI d e fun e=>cB e (mJ (s52_2 J d) fun e=>faddrK 3 b fun b=>loadK H b fun b=>iaddrK 4 b d fun b=>loadNK 4 H b fun b=>F 52 [a,b] H n fun a b d=>AV.ckOne a (newK [a] b d fun a=>forceN (Nat.succ d) fun b=>mR (fun a b c=>e [a] b c) (appK 1 a b c (.sl d 0 1 (.known 1))))) (j [c] H n)
def s52_4:KJ→KJ:=fun c d e f=>arg1 d fun d g=>arg1 g fun g _=>faddrK 3 b fun h=>loadK e h fun h=>mQ (s52_3 F j c e f a b d g) (lenSl h)
def s52_5:KQ:=fun c=>F 144 [a,c] H n fun c d e=>extK 0 c fun f=>extK 1 c fun c=>F 145 [a,c] d e fun d e g=>faddrK 3 b fun h=>loadK e h fun h=>iaddrK 4 h (I 1) fun h=>loadNK 4 e h fun h=>F 52 [a,h] e g fun e g h=>faddrK 3 b fun b=>loadK g b fun b=>iaddrK 4 b (I 2) fun b=>loadNK 4 g b fun b=>F 52 [a,b] g h fun b g h=>AV.ckOne e (AV.ckOne b (newK [e,b] g h fun b=>forceN (Nat.succ h) fun e=>AV.ckOne (.str 2 26217) (AV.ckOne f (AV.ckOne (.sl h 0 2 (.known 2)) (F 139 [a,.agg [.str 2 26217,f,.str 0 0,I 0,.sl h 0 2 (.known 2),.nils]] b e fun b e f=>F 147 [a,c,d,b] e f k)))))
def s52_6:KJ:=fun d e f=>arg1 d fun d _=>cB d (faddrK 1 b fun c=>loadK e c fun c=>F 142 [a,c] e f fun c d e=>loadNK 4 d b fun b=>F 143 [a,b,c] d e k) (strB .eql c (.str 3 7959156) fun d=>cB d false (strB .eql c (.str 4 1702060387) fun d=>cB d false (strB .eql c (.str 2 26217) fun c=>cB c (faddrK 3 b fun c=>loadK e c fun c=>mQ (s52_5 F e k f a b) (sliceK 4 c none (some (I 1)))) (j [] e f))))
def s52_7:KJ:=fun d e f=>arg1 d fun d _=>cB d (mJ (s52_1 F k a b) fun c=>iterN n (s52_4 F c a b) [.nils,I 0] e f) (strB .eql c (.str 5 465490374508) fun d=>cB d (loadNK 4 e b fun b=>F 140 [a,b,I 0] e f k) (strB .eql c (.str 2 29029) fun d=>cB d (faddrK 3 b fun c=>loadK e c fun c=>iaddrK 4 c (I 0) fun c=>loadNK 4 e c fun c=>faddrK 3 b fun b=>loadK e b fun b=>iaddrK 4 b (I 1) fun b=>loadNK 4 e b fun b=>F 141 [a,c,b] e f k) (mJ (s52_6 F j k a b c) fun a=>strB .eql c (.str 4 1668248176) fun b=>cB b (a [b] e f) (strB .eql c (.str 3 7239014) fun b=>cB b false (strB .eql c (.str 4 2038063468) fun b=>a [b] e f)))))
def s52(a:Nat):Hand:=fun b _ c d e f=>arg1 c fun c g=>arg1 g fun g h=>arg0 h (boxE g d e fun d g=>forceN (Nat.succ e) fun e=>faddrK 0 d fun h=>loadK g h fun h=>mJ (s52_0 b f c d) fun i=>strB .eql h (.str 4 1885956979) fun j=>cB j false (mJ (s52_7 b i f a c d h) fun a=>strB .eql h (.str 3 7431539) fun b=>cB b (a [b] g e) (strB .eql h (.str 6 111546465216611) fun b=>cB b false (strB .eql h (.str 6 110369476601972) fun b=>a [b] g e))))
theorem h52:HO 52 s52:=hO 2 (T2 L0 (T2 (T2 L0 (.one [] (T2 L0 (T2 .stop (.join [36] (T2 L0 (T2 L0 (T2 L0 (T2 .stop L0)))) (T2 (T2 L0 (T2 (T2 L0 (.one [5] (.one [5,6] (T2 (T2 L0 (T2 L0 L0)) (T2 (.one [5] (T2 L0 L0)) L0))))) (T2 L0 L0))) (T2 L0 (T2 (T2 L0 L0) (T2 L0 (T2 (T2 L0 L0) (.join [81] (T2 L0 (T2 L0 (T2 L0 (T2 .stop L0)))) (T2 (T2 L0 (T2 L0 L0)) (T2 L0 (T2 .stop (T2 L0 (T2 .stop (T2 L0 (T2 (T2 L0 (T2 L0 (T2 L0 (T2 L0 (T2 L0 (T2 L0 L0)))))) L0)))))))))))))))))) (T2 L0 (T2 L0 (T2 L0 (T2 L0 L0)))))) Tryz.func52 Tryz.call52 fun N F G l H n k=>by kernel_rfl
def s53_0:KQ:=fun c=>eqlI a c fun a=>AV.ckOk b (AV.ckOk a (k (.tup [b,a]) H n))
def s53_1:KQ:=fun c=>mQ (s53_0 H k n c b) (lenSl a)
def s53_2:KJ:=fun b c d=>arg1 b fun b _=>mQ (s53_1 c k d a b) (lenSl b)
def s53_3:KJ:=fun a b c=>arg1 a fun a d=>arg1 d fun d e=>arg1 e fun e f=>arg1 f fun f g=>arg1 g fun g h=>arg1 h fun h i=>arg1 i fun i l=>arg1 l fun l m=>arg1 m fun m o=>arg1 o fun o _=>j [a,d,e,f,g,h,i,l,m,o] b c
def s53_4:KJ:=fun a b c=>arg1 a fun a d=>arg1 d fun d e=>arg1 e fun e f=>arg1 f fun f g=>arg1 g fun g h=>arg1 h fun h i=>arg1 i fun i l=>arg1 l fun l m=>arg1 m fun m o=>arg1 o fun o _=>j [a,d,e,f,g,h,i,l,m,o] b c
def s53_5:KJ:=fun b c d=>arg1 b fun b e=>arg1 e fun e f=>arg1 f fun f g=>arg1 g fun g h=>arg1 h fun h i=>arg1 i fun i l=>arg1 l fun l m=>arg1 m fun m o=>arg1 o fun o p=>arg1 p fun p _=>addI a (I 1) fun a=>j [b,e,a,f,g,h,i,l,m,o,p] c d
def s53_6:KR:=fun i l m=>j [i,.bool true,a,b,c,d,e,f,g,h] l m
def s53_7:KJ:=fun e f g=>arg1 e fun e h=>arg1 h fun h i=>arg1 i fun i l=>arg1 l fun l m=>arg1 m fun m o=>arg1 o fun o p=>arg1 p fun p q=>arg1 q fun q r=>arg1 r fun r _=>cB e (iaddrK 1 a d fun a=>storeK 1 f a fT fun _ a=>AV.ckOne d (newK [d] a g fun a=>forceN (Nat.succ g) fun c=>mR (s53_6 j h i l m o p q r) (appK 1 a c b (.sl g 0 1 (.known 1))))) (j [b,c,h,i,l,m,o,p,q,r] f g)
def s53_8:KJ:=fun l m o=>arg1 l fun l _=>addI a (I 1) fun a=>j [l,a,b,c,d,e,f,g,h,i] m o
def s53_9:KR:=fun l m q=>pickK b l fF fun s=>cB s (mJ (s53_8 J c d e f g h i o l) fun b=>iaddrK 6 a r fun a=>faddrK 4 a fun a=>loadK m a fun a=>iaddrK 1 a c fun a=>loadK m a fun a=>iaddrK 1 p a fun a=>loadK m a fun a=>b [a] m q) (j [b,d,e,f,g,h,i,o,l] m q)
def s53_10:KR:=fun l m q=>jR b m q (s53_9 j J a b c d e f g h i l o p) fun a=>lssI d l fun b=>a b m q
def s53_11:KR:=fun l m p=>jR b m p (s53_10 j J a b c d e f g h l i o) fun a=>mQ (fun b=>a b m p) (lenSl l)
def s53_12:KR:=fun l m o=>jR b m o (s53_11 j J a b c d e f g l h i) fun a=>loadK m l fun b=>a b m o
def s53_13:KR:=fun i l m=>jR b l m (s53_12 j J a b c d e f i g h) fun a=>faddrK 4 i fun b=>a b l m
def s53_14:KR:=fun h i l=>jR b i l (s53_13 j J a b c d e h f g) fun a=>iaddrK 6 e h fun b=>a b i l
def s53_15:KR:=fun g h i=>jR b h i (s53_14 j J a b c d g e f) fun a=>a f h i
def s53_16:KR:=fun f g h=>jR b g h (s53_15 j J a b c f d e) fun b=>b a g h
def s53_17:KJ→KJ:=fun d e f g=>arg1 e fun e h=>arg1 h fun h i=>arg1 i fun _ i=>arg1 i fun _ i=>arg1 i fun _ i=>arg1 i fun _ i=>arg1 i fun _ i=>arg1 i fun _ i=>arg1 i fun _ i=>arg1 i fun _ _=>jR e f g (s53_16 j d a e h b c) fun a=>a h f g
def s53_18:KQ:=fun l=>lssI s l fun l=>cB l (mJ (s53_5 J s) fun j=>iaddrK 1 o s fun l=>loadK H l fun l=>notB l fun l=>mJ (s53_7 j o p r s) fun j=>iterN n (s53_17 j a o s) [l,I 0,b,c,d,e,f,g,h,i] H m) (j [p,r,b,c,d,e,f,g,h,i] H m)
def s53_19:KJ→KJ:=fun c d e f=>arg1 d fun d g=>arg1 g fun g h=>arg1 h fun h i=>arg1 i fun i l=>arg1 l fun l m=>arg1 m fun m o=>arg1 o fun o p=>arg1 p fun p q=>arg1 q fun q r=>arg1 r fun r s=>arg1 s fun s _=>mQ (s53_18 j c e n f a i l m o p q r s b d g h) (lenSl a)
def s53_20:KJ→KJ:=fun c d e f=>arg1 d fun d g=>arg1 g fun g h=>arg1 h fun h i=>arg1 i fun i l=>arg1 l fun l m=>arg1 m fun m o=>arg1 o fun o p=>arg1 p fun p q=>arg1 q fun q r=>arg1 r fun r _=>cB g (mJ (s53_3 c) fun c=>mJ (s53_4 c) fun c=>iterN n (s53_19 c n a b) [d,.bool false,I 0,h,i,l,m,o,p,q,r] e f) (j [d] e f)
def s53_21:KQ:=fun b=>mkslK [.bool false] b b H m fun b c=>forceN (Nat.succ m) fun d=>mJ (s53_2 k a) fun e=>iterN n (s53_20 e n a b) [.nils,.bool true,.bad,.bad,.bad,.bad,.bad,.bad,.bad,.bad] c d
def s53(a:Nat):Hand:=fun _ _ b c d e=>arg1 b fun b f=>arg0 f (mQ (s53_21 c e a d b) (lenSl b))
theorem h53:HO 53 s53:=hO 1 (T2 L0 (T2 L0 (T2 L0 (T2 (T2 L0 (.one [5] (.one [5,6,27,28,29,30,31,32,33,34] (T2 (T2 L0 (T2 L0 L0)) (.one [5,6,27,28,29,30,31,32,33,34] (T2 L0 (T2 L0 (.one [5,6,27,28,29,30,31,32,33,34] (.one [5,6,7,27,28,29,30,31,32,33,34] (T2 (T2 L0 (T2 L0 L0)) (T2 (.one [5,6,27,28,29,30,31,32,33,34] (T2 L0 (T2 (T2 L0 (.one [8,27,28,29,30,31,32,33,34] (.one [8,9,27,28,29,30,31,32,33,34] (T2 (T2 L0 (T2 L0 L0)) (T2 (.one [8] L0) L0))))) (T2 L0 (T2 (T2 L0 (T2 L0 L0)) L0))))) L0))))))))))) (T2 L0 L0))))) Tryz.func53 Tryz.call53 fun N F G l H n k=>by kernel_rfl
def s54_0:KJ:=fun b c d=>arg1 b fun b e=>arg1 e fun e f=>arg1 f fun f g=>arg1 g fun g h=>arg1 h fun h i=>arg1 i fun i l=>arg1 l fun l _=>addI a (I 1) fun a=>j [a,b,e,f,g,h,i,l] c d
def s54_1:KJ:=fun _ l m=>iaddrK 1 b a fun a=>loadK l a fun a=>iaddrK 1 d a fun a=>storeK 1 l a c fun _ a=>j [e,f,g,h,i,o,p] a m
def s54_2:KJ:=fun _ b c=>addI a (I 1) fun a=>j [a] b c
def s54_3:KQ:=fun d=>lssI a d fun d=>cB d (mJ (s54_2 J a) fun d=>iaddrK 1 c a fun a=>loadK H a fun a=>iaddrK 1 b a fun a=>storeK 1 H a fT fun _ a=>d [] a n) (j [] H n)
def s54_4:KJ→KJ:=fun c d e f=>arg1 d fun d _=>mQ (s54_3 j c e f d a b) (lenSl b)
def s54_5:KJ:=fun e f g=>arg1 e fun e h=>arg1 h fun h i=>arg1 i fun i l=>arg1 l fun l o=>arg1 o fun o p=>arg1 p fun p q=>arg1 q fun q _=>loadNK 6 f (.ptr m 0) fun m=>F 149 [m] f g fun f g m=>mJ (s54_1 j a b c d e h i l o p q) fun a=>iterN n (s54_4 a c f) [I 0] g m
def s54_6:KJ:=fun b c d=>arg1 b fun b e=>arg1 e fun e f=>arg1 f fun f g=>arg1 g fun g h=>arg1 h fun h i=>arg1 i fun i l=>arg1 l fun l _=>addI a (I 1) fun a=>j [a,b,e,f,g,h,i,l] c d
def s54_7:KJ:=fun a b c=>arg1 a fun a d=>arg1 d fun d e=>arg1 e fun e f=>arg1 f fun f g=>arg1 g fun g h=>arg1 h fun h i=>arg1 i fun i _=>j [a,d,e,f,g,h,i] b c
def s54_8:KJ:=fun b c d=>arg1 b fun b e=>arg1 e fun e f=>arg1 f fun f g=>arg1 g fun g h=>arg1 h fun h i=>arg1 i fun i l=>arg1 l fun l _=>addI a (I 1) fun a=>j [a,b,e,f,g,h,i,l] c d
def s54_9:KR:=fun l m o=>pickK b l fF fun b=>cB b (iaddrK 1 i a fun a=>storeK 1 m a fT fun _ a=>j [c,d,e,f,g,h,l] a o) (j [c,d,e,f,g,h,l] m o)
def s54_10:KR:=fun i l m=>jR b l m (s54_9 j a b c d e f g i h) fun a=>notB i fun b=>a b l m
def s54_11:KR:=fun h i l=>jR b i l (s54_10 j a b c d e f h g) fun a=>pickK d h fF fun b=>a b i l
def s54_12:KR:=fun g h i=>jR d h i (s54_11 j a b c d e g f) (F 56 [e,g] h i)
def s54_13:KR:=fun f g h=>jR d g h (s54_12 F j a b c d f e) fun b=>b a g h
def s54_14:KR:=fun f g h=>jR f g h (s54_13 F j a b c f d) fun a=>a e g h
def s54_15:KR:=fun e f g=>jR b f g (s54_14 F j a b e c d) fun a=>a e f g
def s54_16:KJ→KJ:=fun f g h i=>arg1 g fun g l=>arg1 l fun l m=>arg1 m fun m o=>arg1 o fun o p=>arg1 p fun p q=>arg1 q fun q r=>arg1 r fun r s=>arg1 s fun s _=>lssI g c fun c=>cB c (mJ (s54_8 f g) fun c=>iaddrK 1 a g fun a=>loadK h a fun a=>jR a h i (s54_15 F c g a d e) fun a=>a b h i) (j [l,m,o,p,q,r,s] h i)
def s54_17:KQ:=fun l=>lssI a l fun l=>cB l (mJ (s54_6 J a) fun j=>faddrK 4 (.ptr N 0) fun l=>loadK H l fun l=>iaddrK 1 l a fun l=>loadK H l fun l=>iaddrK 1 r l fun l=>loadK H l fun l=>eqlI a (I 0) fun a=>faddrK 0 (.ptr N 0) fun q=>loadK H q fun q=>strB .eql q (.str 3 7959156) fun q=>cB q false (mJ (s54_7 j) fun j=>iterN n (s54_16 F j l a i o p) [I 0,b,c,d,e,f,g,h] H m)) (j [b,c,d,e,f,g,h] H m)
def s54_18:KJ→KJ:=fun e f g h=>arg1 f fun f i=>arg1 i fun i l=>arg1 l fun l o=>arg1 o fun o p=>arg1 p fun p q=>arg1 q fun q r=>arg1 r fun r s=>arg1 s fun s _=>faddrK 4 (.ptr m 0) fun t=>loadK g t fun t=>mQ (s54_17 F j e g n h m f i l o p q r s a b c d) (lenSl t)
def s54_19:KQ:=fun l=>lssI b l fun l=>cB l (mJ (s54_0 J b) fun j=>iaddrK 1 p b fun l=>loadK H l fun l=>iaddrK 6 a l fun a=>loadNK 6 H a fun a=>newK [.str 0 0,.nils,.str 0 0,I 0,.nils,.nils] H m fun l=>forceN (Nat.succ m) fun q=>storeK 6 l (.ptr m 0) a fun _ a=>mkslK [.bool false] c c a q fun a l=>forceN (Nat.succ q) fun q=>loadNK 6 l (.ptr m 0) fun s=>F 148 [s] l q fun l q s=>mJ (s54_5 F j n m b p a r) fun b=>iterN n (s54_18 F b n m c a l r) [I 0,d,e,f,g,h,i,o] q s) (j [] H m)
def s54_20:KJ→KJ:=fun e f g h=>arg1 f fun f i=>arg1 i fun i l=>arg1 l fun l m=>arg1 m fun m o=>arg1 o fun o p=>arg1 p fun p q=>arg1 q fun q r=>arg1 r fun r _=>mQ (s54_19 F j e g n h a f b i l m o p q r c d) (lenSl c)
def s54_21:KQ:=fun d=>mkslK [.nils] d d H m fun d e=>forceN (Nat.succ m) fun f=>mJ (fun _ a b=>k d a b) fun g=>iterN n (s54_20 F g n a b c d) [I 0,.bad,.bad,.bad,.bad,.bad,.bad,.bad] e f
def s54(a:Nat):Hand:=fun b _ c d e f=>arg1 c fun c g=>arg1 g fun g h=>arg1 h fun h i=>arg0 i (mQ (s54_21 b d f a e c g h) (lenSl c))
theorem h54:HO 54 s54:=hO 3 (T2 L0 (T2 L0 (T2 (T2 L0 (.one [] (.one [8,70,71,72,73,74,75,76] (T2 (T2 L0 (T2 L0 L0)) (T2 (.one [70,71,72,73,74,75,76] (T2 L0 (T2 L0 (T2 L0 (T2 (T2 L0 (.one [70,71,72,73,74,75,76] (.one [12,70,71,72,73,74,75,76] (T2 (T2 L0 (T2 L0 L0)) (T2 (.one [70,71,72,73,74,75,76] (T2 L0 (T2 L0 (T2 (T2 L0 (T2 .stop L0)) (T2 L0 (.one [70,71,72,73,74,75,76] (.one [15,70,71,72,73,74,75,76] (T2 (T2 L0 (T2 L0 L0)) (T2 (.one [70,71,72,73,74,75,76] (T2 L0 (T2 L0 L0))) L0))))))))) L0))))) (T2 L0 (T2 (T2 L0 (.one [] (.one [17] (T2 (T2 L0 (T2 L0 L0)) (T2 (.one [] L0) L0))))) L0))))))) L0))))) (T2 L0 L0)))) Tryz.func54 Tryz.call54 fun N F G l H n k=>by kernel_rfl
def s55_0:KJ:=fun a b c=>arg1 a fun a _=>k a b c
def s55_1:KJ:=fun b c d=>arg1 b fun b _=>addI a (I 1) fun a=>j [b,a] c d
def s55_2:KQ:=fun d=>lssI c d fun d=>cB d (mJ (s55_1 j c) fun d=>iaddrK 1 a c fun a=>loadK H a fun a=>cB a (AV.ckOne c (newK [c] H n fun a=>forceN (Nat.succ n) fun c=>mR (fun a b c=>d [a] b c) (appK 1 a c b (.sl n 0 1 (.known 1))))) (d [b] H n)) (J [b] H n)
def s55_3:KJ→KJ:=fun b c d e=>arg1 c fun c f=>arg1 f fun f _=>mQ (s55_2 b j d e a c f) (lenSl a)
def s55(a:Nat):Hand:=fun _ _ b c d e=>arg1 b fun b f=>arg0 f (mJ (s55_0 e) fun e=>iterN a (s55_3 e b) [.nils,I 0] c d)
theorem h55:HO 55 s55:=hO 1 (T2 L0 (T2 L0 (T2 (T2 L0 (.one [3] (.one [3,4] (T2 (T2 L0 (T2 L0 L0)) (T2 (.one [3] (T2 L0 (T2 L0 L0))) L0))))) (T2 L0 L0)))) Tryz.func55 Tryz.call55 fun N F G l H n k=>by kernel_rfl
def s56_0:KJ:=fun _ b c=>addI a (I 1) fun a=>j [a] b c
def s56_1:KQ:=fun d=>lssI b d fun d=>cB d (mJ (s56_0 j b) fun d=>iaddrK 1 a b fun a=>loadK H a fun a=>eqlI a c fun a=>cB a (k fT H n) (d [] H n)) (J [] H n)
def s56_2:KJ→KJ:=fun c d e f=>arg1 d fun d _=>mQ (s56_1 c j e k f a d b) (lenSl a)
def s56(a:Nat):Hand:=fun _ _ b c d e=>arg1 b fun b f=>arg1 f fun f g=>arg0 g (mJ (fun _ a b=>e fF a b) fun g=>iterN a (s56_2 g e b f) [I 0] c d)
theorem h56:HO 56 s56:=hO 2 (T2 L0 (T2 (T2 L0 (.one [] (.one [5] (T2 (T2 L0 (T2 L0 L0)) (T2 (.one [] (T2 L0 (T2 (T2 L0 L0) L0))) L0))))) (T2 L0 L0))) Tryz.func56 Tryz.call56 fun N F G l H n k=>by kernel_rfl
def s57_0:KQ:=fun a=>mQ (fun a=>k a H n) (b2sK H a)
def s57_1:KQ:=fun d=>F 152 [d,b] H m fun _ b d=>lssI a (I 0) fun a=>cB a false (addI (I 1) c fun a=>mQ (s57_0 b k d) (sliceArrK 24 1 (.ptr n 0) (some (I 1)) (some a)))
def s57_2:KR:=fun c d e=>pickK b c fF fun b=>cB b (F 150 [a] d e k) (newK [.int .u8 (.ofNat 0),.int .u8 (.ofNat 0),.int .u8 (.ofNat 0),.int .u8 (.ofNat 0),.int .u8 (.ofNat 0),.int .u8 (.ofNat 0),.int .u8 (.ofNat 0),.int .u8 (.ofNat 0),.int .u8 (.ofNat 0),.int .u8 (.ofNat 0),.int .u8 (.ofNat 0),.int .u8 (.ofNat 0),.int .u8 (.ofNat 0),.int .u8 (.ofNat 0),.int .u8 (.ofNat 0),.int .u8 (.ofNat 0),.int .u8 (.ofNat 0),.int .u8 (.ofNat 0),.int .u8 (.ofNat 0),.int .u8 (.ofNat 0),.int .u8 (.ofNat 0),.int .u8 (.ofNat 0),.int .u8 (.ofNat 0),.int .u8 (.ofNat 0)] d e fun b=>forceN (Nat.succ e) fun c=>convI .u64 a fun d=>lssI a (I 0) fun f=>cB f false (F 151 [d] b c fun b c f=>addI (I 1) b fun g=>mQ (s57_1 F c k e f a d b) (sliceArrK 24 1 (.ptr e 0) (some (I 1)) (some g))))
def s57_3:KR:=fun c d e=>jR b d e (s57_2 F k a b) fun a=>lssI c (I 100) fun b=>a b d e
def s57(_:Nat):Hand:=fun a _ b c d e=>arg1 b fun b f=>arg1 f fun f g=>arg0 g (eqlI f (I 10) fun f=>cB f (leqI (I 0) b fun f=>jR f c d (s57_3 a e b f) fun a=>a b c d) false)
theorem h57:HO 57 s57:=hO 2 (T2 L0 (T2 (T2 L0 (T2 (T2 (T2 L0 (T2 (T2 L0 L0) L0)) (T2 L0 (T2 L0 (T2 (T2 L0 (T2 .stop L0)) (T2 L0 (T2 L0 (T2 (T2 L0 (T2 .stop L0)) (T2 L0 L0)))))))) .stop)) .stop)) Tryz.func57 Tryz.call57 fun N F G l H n k=>by kernel_rfl
def s58_0:KJ:=fun b c d=>arg1 b fun b e=>arg1 e fun e f=>arg1 f fun f g=>arg1 g fun g h=>arg1 h fun h i=>arg1 i fun i l=>arg1 l fun l m=>arg1 m fun m o=>arg1 o fun o p=>arg1 p fun p q=>arg1 q fun q r=>arg1 r fun r s=>arg1 s fun s t=>arg1 t fun t u=>arg1 u fun u v=>arg1 v fun v w=>arg1 w fun w x=>arg1 x fun x y=>arg1 y fun y z=>arg1 z fun z _=>addI a (I 1) fun a=>j [a,b,e,f,g,h,i,l,m,o,p,q,r,s,t,u,v,w,x,y,z] c d
def s58_1:KR:=fun l m q=>pickK i fT l fun i=>cB i false (j [a,b,c,d,e,f,g,h,o,p,r,s,t,u,v,w,x,y,z,l] m q)
def s58_2:KR:=fun l m q=>jRn i m q (s58_1 j a b c d e f g h i o p r s t u v w x y l) fun a=>pickK t l fF fun b=>a b m q
def s58_3:KR:=fun l m q=>jR t m q (s58_2 j a b c d e f g h i o p r s t u v w x l) (F 157 [x,l] m q)
def s58_4:KR:=fun l m q=>jR u m q (s58_3 F j b c d e f g h i o p r s t u v w x l) fun b=>b a m q
def s58_5:KR:=fun l m q=>jR u m q (s58_4 F j a b c d e f g h i o p r s t u v w l) fun a=>mQ (fun b=>a b m q) (sliceK 1 w none (some l))
def s58_6:KR:=fun l m q=>jR v m q (s58_5 F j b c d e f g h i o p r s t u v w l) fun b=>b a m q
def s58_7:KR:=fun l m q=>jR v m q (s58_6 F j a b c d e f g h i o p r s t u v l) fun a=>loadK m l fun b=>a b m q
def s58_8:KR:=fun l m q=>jR l m q (s58_7 F j a c d e f g h i o p r s t u v l) fun a=>faddrK 1 b fun b=>a b m q
def s58_9:KR:=fun l m q=>jRn r m q (s58_8 F j a b c d e f g h i o p r s t u l) fun a=>a l m q
def s58_10:KR:=fun l m q=>jRn r m q (s58_9 F j a b c d e f g h i o p r s t l) fun a=>lssI s l fun b=>a b m q
def s58_11:KR:=fun l m q=>jRn r m q (s58_10 F j a b c d e f g h i o p r s l) fun a=>loadK m l fun b=>a b m q
def s58_12:KR:=fun l m q=>jRn r m q (s58_11 F j a b c d e f g h i o p r l) fun a=>faddrK 2 b fun b=>a b m q
def s58_13:KR:=fun l m q=>pickK d l fF fun d=>jRn d m q (s58_12 F j a b c e f g h i o p l d) fun b=>b a m q
def s58_14:KR:=fun l m p=>jR d m p (s58_13 F j a b c d e f g h i o l) fun a=>pickK g fT l fun b=>a b m p
def s58_15:KR:=fun l m o=>jRn g m o (s58_14 F j a b c d e f g h i l) fun a=>lssI h l fun b=>a b m o
def s58_16:KR:=fun i l m=>jRn g l m (s58_15 F j a b c d e f g h i) fun a=>loadK l i fun b=>a b l m
def s58_17:KR:=fun h i l=>jRn g i l (s58_16 F j a b c d e f g h) fun a=>faddrK 2 b fun b=>a b i l
def s58_18:KR:=fun g h i=>jRn g h i (s58_17 F j a b c d e f g) fun b=>b a h i
def s58_19:KR:=fun f g h=>jR d g h (s58_18 F j a b c d e f) fun a=>a f g h
def s58_20:KR:=fun e f g=>jR d f g (s58_19 F j a b c d e) fun a=>strB .neq e (.str 0 0) fun b=>a b f g
def s58_21:KJ→KJ:=fun d e f g=>arg1 e fun e h=>arg1 h fun _ h=>arg1 h fun _ h=>arg1 h fun _ h=>arg1 h fun _ h=>arg1 h fun _ h=>arg1 h fun _ h=>arg1 h fun _ h=>arg1 h fun _ h=>arg1 h fun _ h=>arg1 h fun _ h=>arg1 h fun _ h=>arg1 h fun _ h=>arg1 h fun _ h=>arg1 h fun _ h=>arg1 h fun _ h=>arg1 h fun _ h=>arg1 h fun _ h=>arg1 h fun _ h=>arg1 h fun _ h=>arg1 h fun _ _=>lssI e b fun b=>cB b (mJ (s58_0 d e) fun b=>iaddrK 1 a e fun a=>loadK f a fun a=>F 156 [a,.int .u8 (.ofNat 65),.int .u8 (.ofNat 90)] f g fun d f g=>notB d fun d=>jR d f g (s58_20 F b e c a d) fun b=>b a f g) (j [] f g)
def s58_22:KQ:=fun c=>mJ (fun _ a b=>k fT a b) fun d=>iterN n (s58_21 F d a c b) [I 0,.bad,.bad,.bad,.bad,.bad,.bad,.bad,.bad,.bad,.bad,.bad,.bad,.bad,.bad,.bad,.bad,.bad,.bad,.bad,.bad] H m
def s58_23:KR:=fun c d e=>pickK b fT c fun b=>cB b false (faddrK 1 a fun b=>loadK d b fun b=>mQ (s58_22 F d k n e b a) (lenSl b))
def s58_24:KR:=fun c d e=>jRn b d e (s58_23 F k n a b) fun a=>notB c fun b=>a b d e
def s58_25:KR:=fun d e f=>jRn b e f (s58_24 F k n a b) (F 155 [c,d] e f)
def s58_26:KR:=fun d e f=>jRn c e f (s58_25 F k n a c d) fun a=>a b e f
def s58_27:KR:=fun e f g=>jRn c f g (s58_26 F k n a b c) fun a=>mQ (fun b=>a b f g) (sliceK 1 d none (some e))
def s58_28:KR:=fun e f g=>jRn c f g (s58_27 F k n a b c d) fun a=>mQ (fun b=>a b f g) (lenSl e)
def s58_29:KR:=fun d e f=>jRn c e f (s58_28 F k n a b c d) fun a=>a b e f
def s58_30:KR:=fun d e f=>jRn c e f (s58_29 F k n a b c) fun a=>loadK e d fun b=>a b e f
def s58_31:KR:=fun d e f=>pickK b fT d fun b=>jRn b e f (s58_30 F k n a c b) fun b=>faddrK 1 a fun a=>b a e f
def s58_32:KR:=fun d e f=>jRn b e f (s58_31 F k n a b c) fun a=>gtrI d (I 800) fun b=>a b e f
def s58_33:KR:=fun d e f=>jRn b e f (s58_32 F k n a b c) fun a=>mQ (fun b=>a b e f) (lenSl d)
def s58_34:KR:=fun d e f=>jRn b e f (s58_33 F k n a b c) fun a=>loadK e d fun b=>a b e f
def s58_35:KR:=fun d e f=>pickK b fT d fun b=>jRn b e f (s58_34 F k n a b c) fun b=>faddrK 1 a fun a=>b a e f
def s58_36:KR:=fun e f g=>jRn b f g (s58_35 F k n a b d) fun a=>gtrI c e fun b=>a b f g
def s58_37:KR:=fun e f g=>jRn b f g (s58_36 F k n a b c d) fun a=>mQ (fun b=>a b f g) (lenSl e)
def s58_38:KR:=fun e f g=>jRn b f g (s58_37 F k n a b c d) fun a=>loadK f e fun b=>a b f g
def s58_39:KR:=fun d e f=>jRn b e f (s58_38 F k n a b d c) fun b=>faddrK 1 a fun a=>b a e f
def s58_40:KR:=fun d e f=>jRn b e f (s58_39 F k n a b c) fun a=>loadK e d fun b=>a b e f
def s58_41:KR:=fun d e f=>pickK a fT d fun a=>jRn a e f (s58_40 F k n b a c) fun a=>faddrK 2 b fun b=>a b e f
def s58_42:KR:=fun d e f=>jRn a e f (s58_41 F k n a b c) fun a=>gtrI d (I 60) fun b=>a b e f
def s58_43:KR:=fun d e f=>jRn a e f (s58_42 F k n a b c) fun a=>loadK e d fun b=>a b e f
def s58_44:KQ:=fun d=>lssI c d fun c=>jRn c H m (s58_43 F k n c a b) fun b=>faddrK 2 a fun a=>b a H m
def s58(a:Nat):Hand:=fun b _ c d e f=>arg1 c fun c g=>arg0 g (boxE c d e fun c d=>forceN (Nat.succ e) fun e=>b 154 [] d e fun d e g=>faddrK 2 c fun h=>loadK e h fun h=>mQ (s58_44 b e f a g c d h) (lenSl d))
theorem h58:HO 58 s58:=hO 1 (T2 L0 (T2 L0 (T2 (T2 L0 (T2 .stop L0)) (T2 (T2 L0 (.one [] (.one [44,53,54,55,56,57,58,59,60,63,64,65,66,67,68,69,70,71,72,73,74] (T2 L0 (T2 (T2 L0 L0) (T2 (.one [53,54,55,56,57,58,59,60,63,64,65,66,67,68,69,70,71,72,73,74] (T2 L0 (T2 L0 (T2 .stop L0)))) L0)))))) (T2 L0 L0))))) Tryz.func58 Tryz.call58 fun N F G l H n k=>by kernel_rfl
def s59_0:KR:=fun b c d=>pickK a b fF fun a=>k a c d
def s59_1:KR:=fun b c d=>jR a c d (s59_0 k a) fun a=>notB b fun b=>a b c d
def s59_2:KR:=fun d e f=>jR a e f (s59_1 k a) (callV F G b [c,d] e f)
def s59_3:KR:=fun d e f=>jR a e f (s59_2 F G k a b c) fun a=>mQ (fun b=>a b e f) (lenSl d)
def s59_4:KR:=fun d e f=>jR a e f (s59_3 F G k a b c) fun a=>loadK e d fun b=>a b e f
def s59_5:KR:=fun d e f=>jR a e f (s59_4 F G k a b d) fun a=>faddrK 0 c fun b=>a b e f
def s59_6:KR:=fun d e f=>jR a e f (s59_5 F G k a b c) fun a=>loadK e d fun b=>a b e f
def s59_7:KR:=fun d e f=>jR a e f (s59_6 F G k a d b) fun a=>faddrK 4 c fun b=>a b e f
def s59_8:KR:=fun d e f=>pickK a d fF fun a=>jR a e f (s59_7 F G k a b c) fun a=>a (.fn (.func 162) [] []) e f
def s59_9:KR:=fun d e f=>jR a e f (s59_8 F G k a b c) fun a=>notB d fun b=>a b e f
def s59_10:KR:=fun f g h=>jR a g h (s59_9 F G k a d e) (callV F G b [c,f] g h)
def s59_11:KR:=fun f g h=>jR a g h (s59_10 F G k a b c d e) fun a=>mQ (fun b=>a b g h) (lenSl f)
def s59_12:KR:=fun f g h=>jR a g h (s59_11 F G k a b c d e) fun a=>loadK g f fun b=>a b g h
def s59_13:KR:=fun e f g=>jR a f g (s59_12 F G k a b e c d) fun a=>faddrK 1 c fun b=>a b f g
def s59_14:KR:=fun e f g=>jR a f g (s59_13 F G k a b c d) fun a=>loadK f e fun b=>a b f g
def s59_15:KR:=fun d e f=>jR a e f (s59_14 F G k a d b c) fun a=>faddrK 5 c fun b=>a b e f
def s59_16:KR:=fun d e f=>pickK a d fF fun a=>jR a e f (s59_15 F G k a b c) fun a=>a (.fn (.func 162) [] []) e f
def s59_17:KR:=fun d e f=>jR a e f (s59_16 F G k a b c) fun a=>notB d fun b=>a b e f
def s59_18:KR:=fun f g h=>jR a g h (s59_17 F G k a d e) (callV F G b [c,f] g h)
def s59_19:KR:=fun f g h=>jR a g h (s59_18 F G k a b c d e) fun a=>mQ (fun b=>a b g h) (lenSl f)
def s59_20:KR:=fun f g h=>jR a g h (s59_19 F G k a b c d e) fun a=>loadK g f fun b=>a b g h
def s59_21:KR:=fun e f g=>jR a f g (s59_20 F G k a b e c d) fun a=>faddrK 1 c fun b=>a b f g
def s59_22:KR:=fun e f g=>jR a f g (s59_21 F G k a b c d) fun a=>loadK f e fun b=>a b f g
def s59_23:KR:=fun d e f=>jR a e f (s59_22 F G k a d b c) fun a=>faddrK 1 c fun b=>a b e f
def s59_24:KR:=fun d e f=>pickK a d fF fun a=>jR a e f (s59_23 F G k a b c) fun a=>a (.fn (.func 162) [] []) e f
def s59_25:KR:=fun e f g=>jR a f g (s59_24 F G k a c d) fun a=>pickK b fT e fun b=>a b f g
def s59_26:KR:=fun e f g=>jRn b f g (s59_25 F G k a b c d) fun a=>eqlI e (I 0) fun b=>a b f g
def s59_27:KR:=fun e f g=>jRn b f g (s59_26 F G k a b c d) fun a=>mQ (fun b=>a b f g) (lenSl e)
def s59_28:KR:=fun e f g=>jRn b f g (s59_27 F G k a b c d) fun a=>loadK f e fun b=>a b f g
def s59_29:KR:=fun d e f=>jRn d e f (s59_28 F G k a d b c) fun a=>faddrK 5 c fun b=>a b e f
def s59_30:KR:=fun d e f=>jR a e f (s59_29 F G k a b c) fun a=>a d e f
def s59_31:KR:=fun d e f=>jR a e f (s59_30 F G k a b c) fun a=>strB .eql d (.str 4 1668248176) fun b=>a b e f
def s59_32:KR:=fun d e f=>jR a e f (s59_31 F G k a b c) fun a=>loadK e d fun b=>a b e f
def s59_33:KR:=fun d e f=>pickK a d fF fun a=>jR a e f (s59_32 F G k a b c) fun a=>faddrK 0 c fun b=>a b e f
def s59_34:KR:=fun e f g=>pickK b fT e fun b=>jR a f g (s59_33 F G k a c d) fun a=>a b f g
def s59_35:KR:=fun e f g=>jRn b f g (s59_34 F G k a b c d) fun a=>eqlI e (I 0) fun b=>a b f g
def s59_36:KR:=fun e f g=>jRn b f g (s59_35 F G k a b c d) fun a=>loadK f e fun b=>a b f g
def s59_37:KR:=fun e f g=>pickK b e fF fun b=>jRn b f g (s59_36 F G k a b c d) fun a=>faddrK 3 d fun b=>a b f g
def s59_38:KR:=fun e f g=>jR b f g (s59_37 F G k a b c d) fun a=>leqI e (I 1099511627776) fun b=>a b f g
def s59_39:KR:=fun e f g=>jR b f g (s59_38 F G k a b c d) fun a=>loadK f e fun b=>a b f g
def s59_40:KR:=fun e f g=>pickK b e fF fun b=>jR b f g (s59_39 F G k a b c d) fun a=>faddrK 3 d fun b=>a b f g
def s59_41:KR:=fun e f g=>jR b f g (s59_40 F G k a b c d) fun a=>geqI e (.int .i64 (.negSucc 1099511627775)) fun b=>a b f g
def s59_42:KR:=fun e f g=>jR b f g (s59_41 F G k a b c d) fun a=>loadK f e fun b=>a b f g
def s59_43:KJ:=fun c d e=>arg1 c fun c _=>faddrK 5 (.ptr n 0) fun f=>loadK d f fun f=>jR f d e (s59_42 F G k c f a b) fun a=>faddrK 3 b fun b=>a b d e
def s59_44:KR:=fun d e f=>pickK b fT d fun b=>cB b false (faddrK 4 (.ptr n 0) fun b=>loadK e b fun b=>mJ (s59_43 F G k n a c) fun a=>strB .eql b (.str 0 0) fun d=>cB d (faddrK 2 c fun b=>loadK e b fun b=>strB .eql b (.str 0 0) fun b=>a [b] e f) (strB .eql b (.str 4 1836020833) fun d=>cB d (faddrK 2 c fun b=>loadK e b fun b=>F 160 [b] e f fun b c d=>a [b] c d) (strB .eql b (.str 2 28783) fun b=>cB b (F 161 [.str 21 89506276340753343615129322125021807428582322806827] e f fun b d f=>faddrK 2 c fun c=>loadK d c fun g=>F 157 [b,g] d f fun b d f=>loadK e c fun c=>ifB (sameF 8 c g) (a [b] d f)) false)))
def s59_45:KR:=fun d e f=>jRn b e f (s59_44 F G k n a b c) fun a=>notB d fun b=>a b e f
def s59_46:KR:=fun f g h=>jRn b g h (s59_45 F G k n a b d) (F 159 [c,e,f] g h)
def s59_47:KR:=fun f g h=>jRn b g h (s59_46 F G k n a b c d e) fun a=>loadK g f fun b=>a b g h
def s59_48:KR:=fun e f g=>jRn b f g (s59_47 F G k n a b c d e) fun a=>faddrK 3 (.ptr n 0) fun b=>a b f g
def s59_49:KR:=fun e f g=>jRn b f g (s59_48 F G k n a b c d) fun a=>loadK f e fun b=>a b f g
def s59_50:KR:=fun d e f=>jRn b e f (s59_49 F G k n a b d c) fun a=>faddrK 2 (.ptr n 0) fun b=>a b e f
def s59_51:KR:=fun d e f=>jRn b e f (s59_50 F G k n a b c) fun a=>mQ (fun b=>a b e f) (lenSl d)
def s59_52:KR:=fun d e f=>jRn b e f (s59_51 F G k n a b c) fun a=>loadK e d fun b=>a b e f
def s59_53:KR:=fun d e f=>pickK a fT d fun a=>jRn a e f (s59_52 F G k n b a c) fun a=>faddrK 4 c fun b=>a b e f
def s59_54:KR:=fun d e f=>jRn a e f (s59_53 F G k n a b c) fun a=>notB d fun b=>a b e f
def s59_55:KR:=fun f g h=>jRn a g h (s59_54 F G k n a d e) (F 159 [b,c,f] g h)
def s59_56:KR:=fun f g h=>jRn a g h (s59_55 F G k n a b c d e) fun a=>loadK g f fun b=>a b g h
def s59_57:KR:=fun e f g=>jRn a f g (s59_56 F G k n a b e c d) fun a=>faddrK 1 (.ptr n 0) fun b=>a b f g
def s59_58:KR:=fun e f g=>jRn a f g (s59_57 F G k n a b c d) fun a=>loadK f e fun b=>a b f g
def s59_59:KR:=fun d e f=>jRn a e f (s59_58 F G k n a d b c) fun a=>faddrK 0 (.ptr n 0) fun b=>a b e f
def s59_60:KR:=fun d e f=>jRn a e f (s59_59 F G k n a b c) fun a=>mQ (fun b=>a b e f) (lenSl d)
def s59_61:KR:=fun d e f=>jRn a e f (s59_60 F G k n a b c) fun a=>loadK e d fun b=>a b e f
def s59(_:Nat):Hand:=fun a b c d e f=>arg1 c fun c g=>arg1 g fun g h=>arg0 h (boxE c d e fun c d=>forceN (Nat.succ e) fun e=>boxE g d e fun d g=>forceN (Nat.succ e) fun e=>faddrK 0 d fun h=>loadK g h fun h=>a 158 [h] g e fun e g h=>extK 0 e fun i=>extK 1 e fun e=>newK [I 0,I 0,I 0,I 0,.str 0 0,.bool false] g h fun g=>forceN (Nat.succ h) fun j=>storeK 6 g (.ptr h 0) i fun _ g=>notB e fun e=>jRn e g j (s59_61 a b f h e c d) fun a=>faddrK 1 d fun b=>a b g j)
theorem h59:HO 59 s59:=hO 2 (T2 L0 (T2 L0 (T2 (T2 L0 (T2 .stop L0)) (T2 (T2 L0 (.one [6] (T2 L0 (T2 L0 (T2 L0 (T2 L0 (T2 L0 (T2 L0 .stop)))))))) (T2 L0 (T2 L0 (T2 L0 L0))))))) Tryz.func59 Tryz.call59 fun N F G l H n k=>by kernel_rfl
def s60_0:KJ:=fun b c d=>arg1 b fun b e=>arg1 e fun e f=>arg1 f fun f g=>arg1 g fun g h=>arg1 h fun h i=>arg1 i fun i l=>arg1 l fun l m=>arg1 m fun m o=>arg1 o fun o p=>arg1 p fun p _=>addI a (I 1) fun a=>j [a,b,e,f,g,h,i,l,m,o,p] c d
def s60_1:KR:=fun l m p=>pickK g fT l fun g=>cB g false (j [e,f,h,i,o,a,b,c,d,l] m p)
def s60_2:KR:=fun l m o=>jRn f m o (s60_1 j a b c l d e f g h i) fun a=>pickK b l fF fun b=>a b m o
def s60_3:KR:=fun i l m=>jR b l m (s60_2 j a b i c d e f g h) fun a=>neqI i (I 1) fun b=>a b l m
def s60_4:KR:=fun i l m=>jR i l m (s60_3 j a i c d e f g h) fun a=>a b l m
def s60_5:KR:=fun h i l=>jRn d i l (s60_4 j h a b c d e f g) fun a=>a h i l
def s60_6:KR:=fun g h i=>jRn d h i (s60_5 j a b c d e f g) fun a=>geqI e g fun b=>a b h i
def s60_7:KR:=fun f g h=>jRn d g h (s60_6 j a b c d e f) fun a=>loadK g f fun b=>a b g h
def s60_8:KR:=fun f g h=>jRn e g h (s60_7 j b c d e f) fun b=>faddrK 2 a fun a=>b a g h
def s60_9:KR:=fun f g h=>pickK d f fF fun d=>jRn d g h (s60_8 j a c e f d) fun a=>a b g h
def s60_10:KR:=fun e f g=>jR d f g (s60_9 j a b c d e) fun a=>gtrI e (I 0) fun b=>a b f g
def s60_11:KJ→KJ:=fun d e f g=>arg1 e fun e h=>arg1 h fun _ h=>arg1 h fun _ h=>arg1 h fun _ h=>arg1 h fun _ h=>arg1 h fun _ h=>arg1 h fun _ h=>arg1 h fun _ h=>arg1 h fun _ h=>arg1 h fun _ h=>arg1 h fun _ _=>lssI e a fun a=>cB a (mJ (s60_0 d e) fun a=>iaddrK 1 c e fun c=>loadK f c fun c=>faddrK 2 b fun d=>loadK f d fun d=>lssI e d fun d=>jR d f g (s60_10 a b e c d) fun a=>a c f g) (j [] f g)
def s60_12:KQ:=fun c=>mJ (fun _ a b=>k fT a b) fun d=>iterN n (s60_11 d c a b) [I 0,.bad,.bad,.bad,.bad,.bad,.bad,.bad,.bad,.bad,.bad] H m
def s60_13:KJ:=fun _ c d=>mQ (s60_12 c k n d a b) (lenSl b)
def s60_14:KJ:=fun _ b c=>addI a (I 1) fun a=>j [a] b c
def s60_15:KJ:=fun _ b c=>addI a (I 1) fun a=>j [a] b c
def s60_16:KJ→KJ:=fun d e f g=>arg1 e fun e _=>lssI e b fun b=>cB b (mJ (s60_15 d e) fun b=>iaddrK 1 a e fun a=>loadK f a fun a=>iaddrK 1 c a fun d=>loadK f d fun d=>addI d (I 1) fun d=>iaddrK 1 c a fun a=>storeK 1 f a d fun _ a=>b [] a g) (j [] f g)
def s60_17:KQ:=fun c=>mJ (fun _ a b=>j [] a b) fun d=>iterN n (s60_16 d a c b) [I 0] H m
def s60_18:KJ→KJ:=fun d e f g=>arg1 e fun e _=>lssI e b fun b=>cB b (mJ (s60_14 d e) fun b=>iaddrK 6 a e fun a=>loadNK 6 f a fun a=>newK [.str 0 0,.nils,.str 0 0,I 0,.nils,.nils] f g fun d=>forceN (Nat.succ g) fun e=>storeK 6 d (.ptr g 0) a fun _ a=>loadNK 6 a (.ptr g 0) fun d=>F 164 [d] a e fun a d e=>extK 0 a fun f=>extK 1 a fun _=>mQ (s60_17 b d n e f c) (lenSl f)) (j [] f g)
def s60_19:KQ:=fun d=>mJ (s60_13 k n b c) fun b=>iterN n (s60_18 F b n a d c) [I 0] H m
def s60_20:KQ:=fun b=>mkslK [I 0] b b H m fun b c=>forceN (Nat.succ m) fun d=>faddrK 0 a fun e=>loadK c e fun e=>mQ (s60_19 F c k n d e a b) (lenSl e)
def s60(a:Nat):Hand:=fun b _ c d e f=>arg1 c fun c g=>arg0 g (boxE c d e fun c d=>forceN (Nat.succ e) fun e=>faddrK 1 c fun g=>loadK d g fun g=>mQ (s60_20 b d f a e c) (lenSl g))
theorem h60:HO 60 s60:=hO 1 (T2 L0 (T2 L0 (T2 (T2 L0 (.one [] (.one [19] (T2 L0 (T2 (T2 L0 L0) (T2 (.one [] (T2 L0 (T2 L0 (T2 L0 (.one [] (.one [30] (T2 L0 (T2 (T2 L0 L0) (T2 (.one [] (T2 L0 L0)) L0))))))))) L0)))))) (T2 (T2 L0 (.one [] (.one [44,54,55,58,59,60,61,62,63,64,65] (T2 L0 (T2 (T2 L0 L0) (T2 (.one [54,55,58,59,60,61,62,63,64,65] (T2 L0 (T2 L0 (T2 .stop L0)))) L0)))))) (T2 L0 L0))))) Tryz.func60 Tryz.call60 fun N F G l H n k=>by kernel_rfl
def s61_0:KR:=fun c d e=>mR (fun _ a b=>k fT a b) fun f=>AV.ckNum a (mapK [] d b a c fun a b=>f a b e)
def s61_1:KJ:=fun c d e=>arg1 c fun c _=>F 123 [c] d e fun _ d e=>newK [] d e fun d=>forceN (Nat.succ e) fun f=>F 167 [c] d f fun c d f=>mR (s61_0 k a b) (appK 1 d f (.sl e 0 0 (.known 0)) c)
def s61_2:KJ:=fun b c d=>arg1 b fun b e=>arg1 e fun e f=>arg1 f fun f g=>arg1 g fun g h=>arg1 h fun h _=>addI a (I 1) fun a=>j [b,a,e,f,g,h] c d
def s61_3:KJ:=fun a b c=>arg1 a fun a d=>arg1 d fun d e=>arg1 e fun e f=>arg1 f fun f g=>arg1 g fun g _=>j [a,d,e,f,g] b c
def s61_4:KJ:=fun b c d=>arg1 b fun b e=>arg1 e fun e f=>arg1 f fun f g=>arg1 g fun g h=>arg1 h fun h _=>addI a (I 1) fun a=>j [b,a,e,f,g,h] c d
def s61_5:KR:=fun e f g=>j [e,a,b,c,d] f g
def s61_6:KR:=fun g h i=>pickK c fT g fun c=>cB c (AV.ckOne b (newK [b] h i fun b=>forceN (Nat.succ i) fun c=>mR (s61_5 j d e f g) (appK 1 b c a (.sl i 0 1 (.known 1))))) (j [a,d,e,f,g] h i)
def s61_7:KR:=fun f g h=>jRn c g h (s61_6 j a b c d e f) fun a=>notB f fun b=>a b g h
def s61_8:KR:=fun e f g=>jRn c f g (s61_7 j a b c d e) (F 166 [d,e] f g)
def s61_9:KR:=fun d e f=>jRn c e f (s61_8 F j a b c d) fun a=>a b e f
def s61_10:KJ→KJ:=fun f g h i=>arg1 g fun g l=>arg1 l fun l m=>arg1 m fun m o=>arg1 o fun o p=>arg1 p fun p q=>arg1 q fun q _=>lssI l b fun b=>cB b (mJ (s61_4 f l) fun b=>iaddrK 1 a l fun a=>loadK h a fun a=>neqI e d fun d=>jRn d h i (s61_9 F b g a d) fun a=>a c h i) (j [g,m,o,p,q] h i)
def s61_11:KQ:=fun l=>mJ (s61_3 j) fun j=>iterN n (s61_10 F j a l b c e) [d,I 0,f,g,h,i] H m
def s61_12:KQ:=fun i=>mQ (s61_11 F j H n m i a b c d e f g h) (lenSl i)
def s61_13:KJ→KJ:=fun g h i l=>arg1 h fun h m=>arg1 m fun m o=>arg1 o fun o p=>arg1 p fun p q=>arg1 q fun q r=>arg1 r fun r _=>lssI m e fun e=>cB e (mJ (s61_2 g m) fun e=>iaddrK 1 d m fun d=>loadK i d fun d=>loadNK 4 i f fun f=>F 61 [f,d,c] i l fun f g i=>notB f fun f=>cB f false (mQ (s61_12 F e g n i a b h m o p q r) fun a=>AV.ckNum d (lookM [] .nils false c d g a))) (j [h] i l)
def s61_14:KQ:=fun h=>mJ (s61_1 F k a e) fun a=>iterN n (s61_13 F a n b c e f h g) [d,I 0,.bad,.bad,.bad,.bad] H m
def s61_15:KR:=fun f g h=>faddrK 4 (.ptr m 0) fun i=>loadK g i fun i=>mQ (s61_14 F g k n h a b c f d i e) (lenSl i)
def s61_16:KR:=fun _ d e=>faddrK 0 c fun f=>loadK d f fun f=>iaddrK 6 f a fun f=>loadNK 6 d f fun f=>newK [.str 0 0,.nils,.str 0 0,I 0,.nils,.nils] d e fun d=>forceN (Nat.succ e) fun g=>storeK 6 d (.ptr e 0) f fun _ d=>loadNK 6 d (.ptr e 0) fun f=>F 164 [f] d g fun d f g=>extK 0 d fun h=>extK 1 d fun d=>newK [] f g fun f=>forceN (Nat.succ g) fun i=>loadNK 6 f (.ptr e 0) fun j=>F 165 [j] f i fun f i j=>mR (s61_15 F k n e a h d b c) (appK 1 i j (.sl g 0 0 (.known 0)) f)
def s61_17:KQ:=fun d=>extK 0 d fun e=>extK 1 d fun d=>cB d (nilSE .neq e fun a=>k a H m) (mR (s61_16 F k n a b c) fun c=>AV.ckNum a (mapK [] H b a .nils fun a b=>c a b m))
def s61(a:Nat):Hand:=fun b _ c d e f=>arg1 c fun c g=>arg1 g fun g h=>arg1 h fun h i=>arg0 i (boxE c d e fun c d=>forceN (Nat.succ e) fun e=>mQ (s61_17 b d f a e g h c) fun a=>AV.ckNum g (lookM [] .nils true h g d a))
theorem h61:HO 61 s61:=hO 3 (T2 L0 (T2 (T2 L0 (T2 L0 (T2 (T2 L0 L0) L0))) (T2 L0 (T2 L0 (T2 L0 (T2 L0 (T2 (T2 L0 (.one [12] (.one [12,45,67,68,69,70] (T2 L0 (T2 (T2 L0 L0) (T2 (.one [12,67,68,69,70] (T2 L0 (T2 (T2 L0 (T2 .stop L0)) (T2 L0 (.one [12,67,68,69,70] (.one [12,59,67,68,69,70] (T2 L0 (T2 (T2 L0 L0) (T2 (.one [12,67,68,69,70] (T2 L0 (T2 L0 (T2 L0 L0)))) L0))))))))) L0)))))) (T2 L0 (T2 L0 (T2 L0 L0)))))))))) Tryz.func61 Tryz.call61 fun N F G l H n k=>by kernel_rfl
def s62_0:KJ:=fun _ b c=>addI a (I 1) fun a=>j [a] b c
def s62_1:KJ→KJ:=fun d e f g=>arg1 e fun e _=>lssI e c fun c=>cB c (mJ (s62_0 d e) fun c=>iaddrK 1 a e fun a=>loadK f a fun a=>iaddrK 1 b e fun b=>loadK f b fun b=>neqI a b fun a=>cB a false (c [] f g)) (j [] f g)
def s62_2:KQ:=fun c=>mJ (fun _ a b=>k fT a b) fun d=>iterN n (s62_1 d a b c) [I 0] H m
def s62_3:KQ:=fun d=>neqI c d fun c=>cB c false (mQ (s62_2 H k n m a b) (lenSl a))
def s62_4:KQ:=fun c=>mQ (s62_3 H k n m a b c) (lenSl b)
def s62(a:Nat):Hand:=fun _ _ b c d e=>arg1 b fun b f=>arg1 f fun f g=>arg0 g (mQ (s62_4 c e a d b f) (lenSl b))
theorem h62:HO 62 s62:=hO 2 (T2 L0 (T2 (T2 L0 (T2 .stop L0)) (T2 (T2 L0 (.one [] (.one [13] (T2 L0 (T2 (T2 L0 L0) (T2 (.one [] (T2 L0 (T2 L0 (T2 .stop L0)))) L0)))))) (T2 L0 L0)))) Tryz.func62 Tryz.call62 fun N F G l H n k=>by kernel_rfl
def s63_0:KQ:=fun b=>F 67 [b] H n fun b c d=>AV.ckOk a (F 168 [b,.fn (.func 169) [] [a]] c d k)
def s63(_:Nat):Hand:=fun a _ b c d e=>arg1 b fun b f=>arg1 f fun f g=>arg0 g (boxE b c d fun b c=>forceN (Nat.succ d) fun d=>faddrK 4 b fun g=>loadK c g fun g=>iaddrK 1 g (I 0) fun g=>loadK c g fun g=>mQ (s63_0 a c e d b) fun a=>AV.ckNum g (lookM [] .nils false f g c a))
theorem h63:HO 63 s63:=hO 2 (T2 L0 (T2 L0 L0)) Tryz.func63 Tryz.call63 fun N F G l H n k=>by kernel_rfl
def s64(_:Nat):Hand:=fun a _ b c d e=>arg1 b fun b f=>arg1 f fun f g=>arg0 g (a 170 [b,f] c d fun a b c=>geqI a (I 0) fun a=>e a b c)
theorem h64:HO 64 s64:=hO 2 (T2 L0 (T2 L0 L0)) Tryz.func64 Tryz.call64 fun N F G l H n k=>by kernel_rfl
def s65(_:Nat):Hand:=fun _ _ a b c d=>arg1 a fun a e=>arg1 e fun e f=>arg0 f (faddrK 2 e fun e=>loadK b e fun e=>geqI a e fun a=>d a b c)
theorem h65:HO 65 s65:=hO 2 (T2 L0 (T2 L0 L0)) Tryz.func65 Tryz.call65 fun N F G l H n k=>by kernel_rfl
def s66(_:Nat):Hand:=fun _ _ a b c d=>arg1 a fun a e=>arg0 e (nilSE .eql a fun e=>cB e (d .nils b c) (newK [] b c fun b=>forceN (Nat.succ c) fun e=>mR d (appK 1 b e (.sl c 0 0 (.known 0)) a)))
theorem h66:HO 66 s66:=hO 1 (T2 L0 (T2 (T2 L0 (T2 (T2 L0 L0) L0)) (T2 L0 L0))) Tryz.func66 Tryz.call66 fun N F G l H n k=>by kernel_rfl
def s67(_:Nat):Hand:=fun _ _ a b c d=>arg1 a fun a e=>arg0 e (nilSE .eql a fun e=>cB e (d .nils b c) (newK [] b c fun b=>forceN (Nat.succ c) fun e=>mR d (appK 1 b e (.sl c 0 0 (.known 0)) a)))
theorem h67:HO 67 s67:=hO 1 (T2 L0 (T2 (T2 L0 (T2 (T2 L0 L0) L0)) (T2 L0 L0))) Tryz.func67 Tryz.call67 fun N F G l H n k=>by kernel_rfl
def s68(_:Nat):Hand:=fun _ _ a b c d=>arg0 a (AV.ckOne fT (boxE (.agg [.bool true,.nils,.nils]) b c fun a b=>forceN (Nat.succ c) (d a b)))
theorem h68:HO 68 s68:=hO 0 (T2 L0 (T2 L0 L0)) Tryz.func68 Tryz.call68 fun N F G l H n k=>by kernel_rfl
def s69(_:Nat):Hand:=fun a _ b c d e=>arg1 b fun b f=>arg1 f fun f g=>arg1 g fun g h=>arg0 h (boxE f c d fun c f=>forceN (Nat.succ d) fun d=>boxE g f d fun f g=>forceN (Nat.succ d) fun d=>AV.ckOk c (AV.ckOk f (loadK g c fun h=>loadK g f fun i=>AV.ckOne (I 4) (AV.ckOne h (AV.ckOne i (a 171 [b,.fn (.func 172) [] [c,f],.agg [I 4,i,h,.nils]] g d fun a b c=>extK 0 a fun d=>extK 1 a fun a=>AV.ckOk d (AV.ckOk a (e (.tup [d,a]) b c))))))))
theorem h69:HO 69 s69:=hO 3 (T2 L0 (T2 L0 L0)) Tryz.func69 Tryz.call69 fun N F G l H n k=>by kernel_rfl
def s70(_:Nat):Hand:=fun a _ b c d e=>arg1 b fun b f=>arg0 f (a 171 [b,.fn (.func 174) [] [],.agg [I 0,I 0,.str 0 0,.nils]] c d fun a b c=>extK 0 a fun d=>extK 1 a fun a=>AV.ckOk d (AV.ckOk a (e (.tup [d,a]) b c)))
theorem h70:HO 70 s70:=hO 1 (T2 L0 (T2 L0 L0)) Tryz.func70 Tryz.call70 fun N F G l H n k=>by kernel_rfl
def s71(_:Nat):Hand:=fun a _ b c d e=>arg1 b fun b f=>arg1 f fun f g=>arg0 g (boxE f c d fun c f=>forceN (Nat.succ d) fun d=>AV.ckOk c (loadK f c fun g=>AV.ckOne (I 2) (AV.ckOne g (a 171 [b,.fn (.func 175) [] [c],.agg [I 2,I 0,g,.nils]] f d fun a b c=>extK 0 a fun d=>extK 1 a fun a=>AV.ckOk d (AV.ckOk a (e (.tup [d,a]) b c))))))
theorem h71:HO 71 s71:=hO 2 (T2 L0 (T2 L0 L0)) Tryz.func71 Tryz.call71 fun N F G l H n k=>by kernel_rfl
def s72_0:KJ:=fun a b c=>arg1 a fun a _=>j [a] b c
def s72_1:KR:=fun b c d=>addI a b fun a=>j [a] c d
def s72_2:KQ:=fun c=>mR (s72_1 j a) fun a=>cpyK 1 H b c fun b c=>a b c n
def s72_3:KQ:=fun c=>mQ (s72_2 j H n b c) (sliceK 1 a none (some b))
def s72_4:KQ:=fun c=>lssI b c fun c=>cB c (mJ (s72_0 J) fun c=>mQ (s72_3 c H n a b) (sliceK 1 a (some b) none)) (j [] H n)
def s72_5:KJ→KJ:=fun b c d e=>arg1 c fun c _=>mQ (s72_4 j b d e a c) (lenSl a)
def s72_6:KR:=fun b c d=>mJ (fun _ b c=>k a b c) fun e=>iterN n (s72_5 e a) [b] c d
def s72_7:KR:=fun d e f=>pickK c fT d fun c=>cB c false (convI .i64 b fun b=>mkslK [I 0] b b e f fun b c=>forceN (Nat.succ f) fun d=>mR (s72_6 k n b) fun e=>cpyK 1 c b a fun a b=>e a b d)
def s72_8:KR:=fun d e f=>jRn c e f (s72_7 k n a b c) fun a=>gtrI d (.int .u64 (.ofNat 9223372036854775807)) fun b=>a b e f
def s72_9:KQ:=fun c=>convI .u64 c fun c=>convI .u64 b fun b=>F 176 [c,b] H m fun b c d=>extK 0 b fun e=>extK 1 b fun b=>gtrI e (.int .u64 (.ofNat 0)) fun e=>jRn e c d (s72_8 k n a b e) fun a=>a b c d
def s72(a:Nat):Hand:=fun b _ c d e f=>arg1 c fun c g=>arg1 g fun g h=>arg0 h (lssI g (I 0) fun h=>cB h false (mQ (s72_9 b d f a e c g) (lenSl c)))
theorem h72:HO 72 s72:=hO 2 (T2 L0 (T2 (T2 L0 (T2 .stop L0)) (T2 L0 (T2 (T2 L0 (T2 .stop L0)) (T2 L0 (T2 L0 (T2 (.one [] (.one [8] (T2 (T2 L0 (T2 L0 L0)) (.one [8] L0)))) (T2 L0 L0)))))))) Tryz.func72 Tryz.call72 fun N F G l H n k=>by kernel_rfl
def s73(_:Nat):Hand:=fun _ _ a b c d=>arg1 a fun a e=>arg0 e (nilSE .eql a fun e=>cB e false (newK [] b c fun b=>forceN (Nat.succ c) fun e=>mR d (appK 4 b e (.sl c 0 0 (.known 0)) a)))
theorem h73:HO 73 s73:=hO 1 (T2 L0 (T2 (T2 L0 (T2 .stop L0)) (T2 L0 L0))) Tryz.func73 Tryz.call73 fun N F G l H n k=>by kernel_rfl
def s75(_:Nat):Hand:=fun a _ b c d e=>arg1 b fun b f=>arg1 f fun _ f=>arg0 f (newK [I 0,I 0] c d fun c=>forceN (Nat.succ d) fun f=>nilK b (faddrK 8 b fun g=>loadK c g fun g=>nilK b (faddrK 2 b fun h=>faddrK 4 h fun h=>loadK c h fun h=>a 76 [b,g,h] c f fun a b c=>storeK 2 b (.ptr d 0) a fun _ a=>loadNK 2 a (.ptr d 0) fun b=>e b a c)))
theorem h75:HO 75 s75:=hO 2 (T2 L0 (T2 L0 L0)) Tryz.func75 Tryz.call75 fun N F G l H n k=>by kernel_rfl
def s76_0:KJ:=fun _ a b=>loadNK 2 a (.ptr 0 0) fun c=>storeK 2 a (.ptr n 0) c fun _ a=>loadNK 2 a (.ptr n 0) fun c=>k c a b
def s76_1:KQ:=fun j=>addI g j fun l=>gtrI l (I 400) fun q=>cB q false (F 178 [i] H m fun m r s=>mJ (s76_0 k n) fun t=>rangeV F 76 m [1,1,0,1,0] [a,h,i,o,p,.bad,.ptr n 0,.bad,.bad,b,b,c,d,d,e,f,g,i,j,l,q,.bad,.bad,.bad,.bad,.bad,.bad,.bad,.bad,i,m,.bad,.bad,.bad,.bad,.bad,.bad,.bad,.bad,.bad,.bad,.bad,.bad,.bad,.bad,.bad,.bad,.bad,.bad,.bad,.bad,.bad,.bad] r s (t []))
def s76_2:KQ:=fun j=>mQ (s76_1 F H k n m a b c d e f j g h i o) (lenSl h)
def s76(_:Nat):Hand:=fun a _ b c d e=>arg1 b fun b f=>arg1 f fun f g=>arg1 g fun g h=>arg0 h (boxE b c d fun c h=>forceN (Nat.succ d) fun d=>boxE f h d fun h i=>forceN (Nat.succ d) fun d=>newK [I 0,I 0] i d fun i=>forceN (Nat.succ d) fun j=>loadK i c fun l=>nilK l (faddrK 1 l fun m=>loadK i m fun o=>nilK o (faddrK 0 o fun p=>loadK i p fun q=>mQ (s76_2 a i e d j b l m o p q f g c h) (lenSl q))))
theorem h76:HO 76 s76:=hO 3 (T2 L0 (T2 (T2 L0 (T2 .stop L0)) (T2 (T2 L0 (.one [] L0)) (T2 L0 L0)))) Tryz.func76 Tryz.call76 fun N F G l H n k=>by kernel_rfl
def s77(_:Nat):Hand:=fun a _ b c d e=>arg1 b fun b f=>arg1 f fun _ f=>arg0 f (newK [I 0,I 0] c d fun c=>forceN (Nat.succ d) fun f=>a 78 [b] c f fun a b c=>storeK 2 b (.ptr d 0) a fun _ a=>loadNK 2 a (.ptr d 0) fun b=>e b a c)
theorem h77:HO 77 s77:=hO 2 (T2 L0 (T2 L0 L0)) Tryz.func77 Tryz.call77 fun N F G l H n k=>by kernel_rfl
def s78_0:KJ:=fun b c d=>arg1 b fun b _=>forceN (Nat.add d 1) fun e=>nilK a (faddrK 8 a fun f=>loadK c f fun f=>nilK a (faddrK 2 a fun g=>faddrK 1 g fun g=>loadK c g fun g=>F 109 [f,g,b] c e fun b e f=>nilK a (faddrK 2 a fun g=>faddrK 4 g fun g=>loadK e g fun h=>iaddrK 1 h (I 0) fun i=>loadK e i fun j=>forceN (Nat.add d 0) fun d=>AV.ckOne j (newK [j] e d fun l=>at_ l d fun l=>hput e d l fun l=>F 76 [a,b,.sl d 0 1 (.known 1)] l f fun a b f=>storeK 2 b (.ptr n 0) a fun _ a=>loadK c g fun b=>ifB (sameF 8 b h) (loadK c i fun b=>ifB (sameF 8 b j) (at_ e d fun b=>Blk.ckDead b (loadNK 2 a (.ptr n 0) fun b=>k b a f)))))))
def s78_1:KJ:=fun b c d=>arg1 b fun b _=>addI a (I 1) fun a=>j [b,a] c d
def s78_2:KJ→KJ:=fun c d e f=>arg1 d fun d g=>arg1 g fun g _=>lssI g b fun b=>cB b (mJ (s78_1 c g) fun b=>nilK a (faddrK 0 a fun a=>loadK e a fun a=>nilK a (faddrK 5 a fun a=>loadK e a fun a=>nilK a (faddrK 0 a fun a=>loadK e a fun a=>F 70 [a] e f fun a c e=>extK 0 a fun f=>extK 1 a fun _=>AV.ckOne f (newK [f] c e fun a=>forceN (Nat.succ e) fun c=>mR (fun a c d=>b [a] c d) (appK 1 a c d (.sl e 0 1 (.known 1)))))))) (j [d] e f)
def s78_3:KQ:=fun b=>mJ (s78_0 F k m a) fun c=>iterN n (s78_2 F c a b) [.nils,I 0] H N
def s78_4:KQ:=fun b=>addI b (I 1) fun b=>gtrI b (I 400) fun b=>cB b false (nilK a (faddrK 2 a fun b=>faddrK 1 b fun b=>loadK H b fun b=>mQ (s78_3 F H k n m N a) (lenSl b)))
def s78_5:KQ:=fun c=>F 179 [b,c] H N fun b c d=>notB b fun b=>cB b false (nilK a (faddrK 1 a fun b=>loadK c b fun b=>nilK b (faddrK 0 b fun b=>loadK c b fun b=>mQ (s78_4 F c k n m d a) (lenSl b))))
def s78(a:Nat):Hand:=fun b _ c d e f=>arg1 c fun c g=>arg0 g (newK [I 0,I 0] d e fun d=>forceN (Nat.succ e) fun g=>nilK c (faddrK 0 c fun h=>loadK d h fun h=>nilK h (faddrK 5 h fun h=>loadK d h fun h=>nilK c (faddrK 2 c fun i=>faddrK 1 i fun i=>loadK d i fun i=>mQ (s78_5 b d f a e g c h) (lenSl i)))))
theorem h78:HO 78 s78:=hO 1 (T2 L0 (T2 (T2 L0 (T2 .stop L0)) (T2 (T2 L0 (T2 .stop L0)) (T2 L0 (T2 (T2 L0 (.one [3] (.one [3,53] (T2 L0 (T2 (T2 L0 L0) (T2 (.one [3] (T2 L0 L0)) L0)))))) (T2 L0 L0)))))) Tryz.func78 Tryz.call78 fun N F G l H n k=>by kernel_rfl
def s79(_:Nat):Hand:=fun a _ b c d e=>arg1 b fun b f=>arg1 f fun _ f=>arg0 f (newK [I 0,I 0] c d fun c=>forceN (Nat.succ d) fun f=>nilK b (faddrK 0 b fun g=>loadK c g fun h=>nilK h (faddrK 5 h fun i=>loadK c i fun j=>nilK b (faddrK 2 b fun l=>faddrK 1 l fun l=>loadK c l fun l=>iaddrK 1 l (I 0) fun l=>loadK c l fun l=>a 81 [b,l] c f fun f l m=>nilK b (faddrK 2 b fun o=>faddrK 1 o fun o=>loadK l o fun p=>iaddrK 1 p (I 1) fun q=>loadK l q fun r=>a 81 [b,r] l m fun b m s=>a 80 [j,f,b] m s fun a b f=>storeK 2 b (.ptr d 0) a fun _ a=>loadK l g fun b=>ifB (sameF 8 b h) (loadK m g fun b=>ifB (sameF 8 b h) (loadK l i fun b=>ifB (sameF 8 b j) (loadK m i fun b=>ifB (sameF 8 b j) (loadK c o fun b=>ifB (sameF 8 b p) (loadK c q fun b=>ifB (sameF 8 b r) (loadNK 2 a (.ptr d 0) fun b=>e b a f)))))))))))
theorem h79:HO 79 s79:=hO 2 (T2 L0 (T2 L0 L0)) Tryz.func79 Tryz.call79 fun N F G l H n k=>by kernel_rfl
def s80(_:Nat):Hand:=fun a _ b c d e=>arg1 b fun b f=>arg1 f fun f g=>arg1 g fun g h=>arg0 h (newK [I 0,I 0] c d fun c=>forceN (Nat.succ d) fun h=>nilK b (faddrK 0 b fun b=>loadK c b fun b=>a 180 [b,f,g] c h fun a b c=>extK 0 a fun _=>extK 1 a fun a=>neqI a (I 0) fun a=>cB a false (loadNK 2 b (.ptr 0 0) fun a=>storeK 2 b (.ptr d 0) a fun _ a=>loadNK 2 a (.ptr d 0) fun b=>e b a c)))
theorem h80:HO 80 s80:=hO 3 (T2 L0 (T2 (T2 L0 (T2 L0 (T2 .stop L0))) (T2 L0 L0))) Tryz.func80 Tryz.call80 fun N F G l H n k=>by kernel_rfl
def s81(_:Nat):Hand:=fun _ _ a b c d=>arg1 a fun a e=>arg1 e fun e f=>arg0 f (nilK a (faddrK 8 a fun a=>loadK b a fun a=>nilK a (faddrK 0 a fun a=>loadK b a fun a=>iaddrK 1 a e fun a=>loadK b a fun a=>d a b c)))
theorem h81:HO 81 s81:=hO 2 (T2 L0 (T2 L0 L0)) Tryz.func81 Tryz.call81 fun N F G l H n k=>by kernel_rfl
def s82(_:Nat):Hand:=fun a _ b c d e=>arg1 b fun b f=>arg1 f fun _ f=>arg0 f (newK [I 0,I 0] c d fun c=>forceN (Nat.succ d) fun f=>nilK b (faddrK 0 b fun g=>loadK c g fun h=>nilK h (faddrK 5 h fun i=>loadK c i fun j=>nilK b (faddrK 2 b fun l=>faddrK 1 l fun l=>loadK c l fun l=>iaddrK 1 l (I 0) fun l=>loadK c l fun l=>a 81 [b,l] c f fun f l m=>nilK b (faddrK 2 b fun b=>faddrK 3 b fun b=>loadK l b fun o=>a 83 [j,f,o] l m fun a f m=>storeK 2 f (.ptr d 0) a fun _ a=>loadK l g fun f=>ifB (sameF 8 f h) (loadK l i fun f=>ifB (sameF 8 f j) (loadK c b fun b=>ifB (sameF 8 b o) (loadNK 2 a (.ptr d 0) fun b=>e b a m))))))))
theorem h82:HO 82 s82:=hO 2 (T2 L0 (T2 L0 L0)) Tryz.func82 Tryz.call82 fun N F G l H n k=>by kernel_rfl
def s83(_:Nat):Hand:=fun a _ b c d e=>arg1 b fun b f=>arg1 f fun f g=>arg1 g fun g h=>arg0 h (boxE b c d fun b c=>forceN (Nat.succ d) fun d=>boxE g c d fun c g=>forceN (Nat.succ d) fun d=>newK [I 0,I 0] g d fun g=>forceN (Nat.succ d) fun h=>loadK g b fun i=>AV.ckOk b (AV.ckOk c (a 181 [i,f,.fn (.func 182) [] [b,c]] g h fun a b c=>storeK 2 b (.ptr d 0) a fun _ a=>loadNK 2 a (.ptr d 0) fun b=>e b a c)))
theorem h83:HO 83 s83:=hO 3 (T2 L0 (T2 L0 L0)) Tryz.func83 Tryz.call83 fun N F G l H n k=>by kernel_rfl
def s85(_:Nat):Hand:=fun a _ b c d e=>arg1 b fun b f=>arg1 f fun f g=>arg1 g fun g h=>arg0 h (boxE b c d fun b c=>forceN (Nat.succ d) fun d=>boxE g c d fun c g=>forceN (Nat.succ d) fun d=>newK [I 0,I 0] g d fun g=>forceN (Nat.succ d) fun h=>loadK g b fun i=>AV.ckOk b (AV.ckOk c (a 181 [i,f,.fn (.func 184) [] [b,c]] g h fun a b c=>storeK 2 b (.ptr d 0) a fun _ a=>loadNK 2 a (.ptr d 0) fun b=>e b a c)))
theorem h85:HO 85 s85:=hO 3 (T2 L0 (T2 L0 L0)) Tryz.func85 Tryz.call85 fun N F G l H n k=>by kernel_rfl
def s86_0:KQ:=fun j=>F 88 [a,j] H m fun a j l=>F 87 [o,b,d,a] j l fun a b l=>storeK 2 b (.ptr n 0) a fun _ a=>loadK H g fun b=>ifB (sameF 8 b h) (loadK j g fun b=>ifB (sameF 8 b h) (loadK H i fun b=>ifB (sameF 8 b o) (loadK j i fun b=>ifB (sameF 8 b o) (loadK K c fun b=>ifB (sameF 8 b d) (loadK j c fun b=>ifB (sameF 8 b d) (loadK K e fun b=>ifB (sameF 8 b f) (loadNK 2 a (.ptr n 0) fun b=>k b a l)))))))
def s86(_:Nat):Hand:=fun a _ b c d e=>arg1 b fun b f=>arg1 f fun _ f=>arg0 f (newK [I 0,I 0] c d fun c=>forceN (Nat.succ d) fun f=>nilK b (faddrK 0 b fun g=>loadK c g fun h=>nilK h (faddrK 5 h fun i=>loadK c i fun j=>nilK b (faddrK 2 b fun l=>faddrK 1 l fun l=>loadK c l fun l=>iaddrK 1 l (I 0) fun l=>loadK c l fun l=>a 81 [b,l] c f fun f l m=>nilK b (faddrK 2 b fun o=>faddrK 2 o fun o=>loadK l o fun p=>nilK b (faddrK 2 b fun q=>faddrK 1 q fun q=>loadK l q fun r=>mQ (s86_0 a l c e d m b f o p q r g h i j) (sliceK 1 r (some (I 1)) none)))))))
theorem h86:HO 86 s86:=hO 2 (T2 L0 (T2 L0 L0)) Tryz.func86 Tryz.call86 fun N F G l H n k=>by kernel_rfl
def s87(_:Nat):Hand:=fun a _ b c d e=>arg1 b fun b f=>arg1 f fun f g=>arg1 g fun g h=>arg1 h fun h i=>arg0 i (boxE b c d fun b c=>forceN (Nat.succ d) fun d=>boxE g c d fun c g=>forceN (Nat.succ d) fun d=>boxE h g d fun g h=>forceN (Nat.succ d) fun d=>newK [I 0,I 0] h d fun h=>forceN (Nat.succ d) fun i=>loadK h b fun j=>AV.ckOk b (AV.ckOk c (AV.ckOk g (a 181 [j,f,.fn (.func 185) [] [b,c,g]] h i fun a b c=>storeK 2 b (.ptr d 0) a fun _ a=>loadNK 2 a (.ptr d 0) fun b=>e b a c))))
theorem h87:HO 87 s87:=hO 4 (T2 L0 (T2 L0 L0)) Tryz.func87 Tryz.call87 fun N F G l H n k=>by kernel_rfl
def s88_0:KJ:=fun a b c=>arg1 a fun a _=>k a b c
def s88_1:KJ:=fun b c d=>arg1 b fun b _=>addI a (I 1) fun a=>j [b,a] c d
def s88_2:KJ→KJ:=fun d e f g=>arg1 e fun e h=>arg1 h fun h _=>lssI h c fun c=>cB c (mJ (s88_1 d h) fun c=>iaddrK 1 b h fun b=>loadK f b fun b=>F 81 [a,b] f g fun a b d=>AV.ckOne a (newK [a] b d fun a=>forceN (Nat.succ d) fun b=>mR (fun a b d=>c [a] b d) (appK 1 a b e (.sl d 0 1 (.known 1))))) (j [e] f g)
def s88_3:KQ:=fun c=>mJ (s88_0 k) fun d=>iterN n (s88_2 F d a b c) [.nils,I 0] H m
def s88(a:Nat):Hand:=fun b _ c d e f=>arg1 c fun c g=>arg1 g fun g h=>arg0 h (mQ (s88_3 b d f a e c g) (lenSl g))
theorem h88:HO 88 s88:=hO 2 (T2 L0 (T2 L0 (T2 (T2 L0 (.one [5] (.one [5,10] (T2 L0 (T2 (T2 L0 L0) (T2 (.one [5] (T2 L0 L0)) L0)))))) (T2 L0 L0)))) Tryz.func88 Tryz.call88 fun N F G l H n k=>by kernel_rfl
def s89_0:KJ:=fun _ d e=>nilK a (faddrK 0 a fun f=>loadK d f fun g=>nilK g (faddrK 5 g fun h=>loadK d h fun i=>nilK a (faddrK 2 a fun j=>faddrK 1 j fun j=>loadK d j fun j=>iaddrK 1 j (I 0) fun j=>loadK d j fun j=>F 81 [a,j] d e fun a d e=>AV.ckOne b (AV.ckOne c (F 187 [i,a,.agg [b,c]] d e fun a b c=>storeK 2 b (.ptr n 0) a fun _ a=>loadK d f fun b=>ifB (sameF 8 b g) (loadK d h fun b=>ifB (sameF 8 b i) (loadNK 2 a (.ptr n 0) fun b=>k b a c)))))))
def s89_1:KJ:=fun _ b c=>addI a (I 1) fun a=>j [a] b c
def s89_2:KJ→KJ:=fun e f g h=>arg1 f fun f _=>lssI f c fun c=>cB c (mJ (s89_1 e f) fun c=>iaddrK 1 b f fun b=>loadK g b fun b=>nilK d (faddrK 0 d fun d=>loadK g d fun e=>F 81 [a,b] g h fun a f g=>iaddrK 1 e b fun b=>storeK 1 f b a fun _ a=>loadK f d fun b=>ifB (sameF 8 b e) (c [] a g))) (j [] g h)
def s89_3:KQ:=fun e=>mJ (s89_0 F k m a c d) fun c=>iterN n (s89_2 F c a b e d) [I 0] H N
def s89(a:Nat):Hand:=fun b _ c d e f=>arg1 c fun c g=>arg1 g fun g h=>arg0 h (newK [I 0,I 0] d e fun d=>forceN (Nat.succ e) fun h=>nilK c (faddrK 0 c fun i=>loadK d i fun i=>b 23 [i] d h fun d h i=>nilK c (faddrK 2 c fun j=>faddrK 5 j fun j=>loadK h j fun j=>mQ (s89_3 b h f a e i c j g d) (lenSl j))))
theorem h89:HO 89 s89:=hO 2 (T2 L0 (T2 L0 (T2 (T2 L0 (.one [] (.one [19] (T2 L0 (T2 (T2 L0 L0) (T2 (.one [] (T2 L0 L0)) L0)))))) (T2 L0 L0)))) Tryz.func89 Tryz.call89 fun N F G l H n k=>by kernel_rfl
def s90(_:Nat):Hand:=fun a _ b c d e=>arg1 b fun b f=>arg1 f fun _ f=>arg0 f (newK [I 0,I 0] c d fun c=>forceN (Nat.succ d) fun f=>AV.ckOk b (a 91 [b,.fn (.func 92) [b] []] c f fun a b c=>storeK 2 b (.ptr d 0) a fun _ a=>loadNK 2 a (.ptr d 0) fun b=>e b a c))
theorem h90:HO 90 s90:=hO 2 (T2 L0 (T2 L0 L0)) Tryz.func90 Tryz.call90 fun N F G l H n k=>by kernel_rfl
def s91(_:Nat):Hand:=fun a b c d e f=>arg1 c fun c g=>arg1 g fun g h=>arg0 h (newK [I 0,I 0] d e fun d=>forceN (Nat.succ e) fun h=>forceN (Nat.add h 1) fun i=>nilK c (faddrK 0 c fun j=>loadK d j fun l=>nilK l (faddrK 5 l fun m=>loadK d m fun o=>nilK c (faddrK 2 c fun p=>faddrK 1 p fun p=>loadK d p fun p=>iaddrK 1 p (I 0) fun p=>loadK d p fun p=>a 81 [c,p] d i fun c d i=>a 114 [o,c] d i fun c i p=>forceN (Nat.add h 0) fun h=>newK [I 0,I 0,.str 0 0,.nils] i h fun q=>at_ q h fun q=>hput i h q fun q=>storeK 4 q (.ptr h 0) c fun _ c=>loadK d j fun j=>ifB (sameF 8 j l) (loadK d m fun j=>ifB (sameF 8 j o) (at_ d h fun d=>Blk.ckDead d (at_ i h fun d=>Blk.ckDead d (faddrK 0 (.ptr h 0) fun d=>loadK c d fun d=>eqlI d (I 0) fun d=>cB d false (loadNK 4 c (.ptr h 0) fun d=>callV a b g [d] c p fun a b c=>storeK 2 b (.ptr e 0) a fun _ a=>loadNK 2 a (.ptr e 0) fun b=>f b a c)))))))))
theorem h91:HO 91 s91:=hO 2 (T2 L0 (T2 L0 (T2 (T2 L0 (T2 .stop L0)) (T2 L0 L0)))) Tryz.func91 Tryz.call91 fun N F G l H n k=>by kernel_rfl
def s92_0:KR:=fun d e f=>pickK b fT d fun b=>cB b false (faddrK 2 c fun b=>loadK e b fun b=>strB .eql b (.str 4 1702195828) fun b=>F 95 [a,b] e f fun a b c=>storeK 2 b (.ptr n 0) a fun _ a=>loadNK 2 a (.ptr n 0) fun b=>k b a c)
def s92_1:KR:=fun e f g=>jRn b f g (s92_0 F k n a b d) fun a=>pickK c e fF fun b=>a b f g
def s92_2:KR:=fun e f g=>jR c f g (s92_1 F k n a b c d) fun a=>strB .neq e (.str 5 435728179558) fun b=>a b f g
def s92_3:KR:=fun e f g=>jR c f g (s92_2 F k n a b c d) fun a=>loadK f e fun b=>a b f g
def s92_4:KR:=fun d e f=>jR d e f (s92_3 F k n a b d c) fun a=>faddrK 2 c fun b=>a b e f
def s92_5:KR:=fun d e f=>jRn b e f (s92_4 F k n a b c) fun a=>a d e f
def s92_6:KR:=fun d e f=>jRn b e f (s92_5 F k n a b c) fun a=>strB .neq d (.str 4 1702195828) fun b=>a b e f
def s92_7:KR:=fun d e f=>jRn b e f (s92_6 F k n a b c) fun a=>loadK e d fun b=>a b e f
def s92(_:Nat):Hand:=fun a _ b c d e=>arg1 b fun b f=>arg1 f fun f g=>arg0 g (boxE f c d fun c f=>forceN (Nat.succ d) fun d=>newK [I 0,I 0] f d fun f=>forceN (Nat.succ d) fun g=>faddrK 0 c fun h=>loadK f h fun h=>neqI h (I 2) fun h=>jRn h f g (s92_7 a e d b h c) fun a=>faddrK 2 c fun b=>a b f g)
theorem h92:HO 92 s92:=hO 2 (T2 L0 (T2 (T2 L0 (T2 .stop L0)) (T2 L0 L0))) Tryz.func92 Tryz.call92 fun N F G l H n k=>by kernel_rfl
def s95(_:Nat):Hand:=fun a _ b c d e=>arg1 b fun b f=>arg1 f fun f g=>arg0 g (newK [I 0,I 0] c d fun c=>forceN (Nat.succ d) fun g=>cB f (forceN (Nat.add g 1) fun f=>nilK b (faddrK 8 b fun h=>loadK c h fun h=>nilK b (faddrK 2 b fun i=>faddrK 4 i fun i=>loadK c i fun i=>iaddrK 1 i (I 0) fun i=>loadK c i fun i=>forceN (Nat.add g 0) fun g=>AV.ckOne i (newK [i] c g fun i=>at_ i g fun i=>hput c g i fun c=>a 76 [b,h,.sl g 0 1 (.known 1)] c f fun a b c=>storeK 2 b (.ptr d 0) a fun _ a=>loadNK 2 a (.ptr d 0) fun b=>e b a c)))) (forceN (Nat.add g 1) fun f=>nilK b (faddrK 8 b fun h=>loadK c h fun h=>nilK b (faddrK 2 b fun i=>faddrK 4 i fun i=>loadK c i fun i=>iaddrK 1 i (I 1) fun i=>loadK c i fun i=>forceN (Nat.add g 0) fun g=>AV.ckOne i (newK [i] c g fun i=>at_ i g fun i=>hput c g i fun c=>a 76 [b,h,.sl g 0 1 (.known 1)] c f fun a b c=>storeK 2 b (.ptr d 0) a fun _ a=>loadNK 2 a (.ptr d 0) fun b=>e b a c)))))
theorem h95:HO 95 s95:=hO 2 (T2 L0 (T2 (T2 L0 (T2 (T2 L0 L0) L0)) (T2 L0 L0))) Tryz.func95 Tryz.call95 fun N F G l H n k=>by kernel_rfl
def s100(_:Nat):Hand:=fun a _ b c d e=>arg1 b fun b f=>arg1 f fun _ f=>arg0 f (newK [I 0,I 0] c d fun c=>forceN (Nat.succ d) fun f=>a 101 [b] c f fun a b c=>storeK 2 b (.ptr d 0) a fun _ a=>loadNK 2 a (.ptr d 0) fun b=>e b a c)
theorem h100:HO 100 s100:=hO 2 (T2 L0 (T2 L0 L0)) Tryz.func100 Tryz.call100 fun N F G l H n k=>by kernel_rfl
def s101_0:KJ:=fun _ c d=>forceN (Nat.add d 1) fun e=>loadK c a fun a=>faddrK 4 (.ptr m 0) fun f=>loadK c f fun f=>iaddrK 1 f (I 0) fun f=>loadK c f fun f=>forceN (Nat.add d 0) fun d=>AV.ckOne f (newK [f] c d fun f=>at_ f d fun f=>hput c d f fun c=>F 76 [a,b,.sl d 0 1 (.known 1)] c e fun a b c=>storeK 2 b (.ptr n 0) a fun _ a=>loadNK 2 a (.ptr n 0) fun b=>k b a c)
def s101_1:KJ:=fun _ b c=>addI a (I 1) fun a=>j [a] b c
def s101_2:KJ→KJ:=fun e f g h=>arg1 f fun f _=>lssI f b fun b=>cB b (mJ (s101_1 e f) fun b=>iaddrK 1 a f fun a=>loadK g a fun a=>nilK d (faddrK 0 d fun d=>loadK g d fun d=>iaddrK 1 c f fun c=>loadK g c fun c=>iaddrK 1 d a fun a=>storeK 1 g a c fun _ a=>b [] a h)) (j [] g h)
def s101_3:KQ:=fun e=>mJ (s101_0 F k m N c d) fun c=>iterN n (s101_2 c a e b d) [I 0] H n1
def s101_4:KQ:=fun d=>mQ (s101_3 F H k n m N n1 d a b c) (lenSl d)
def s101_5:KR:=fun _ d e=>faddrK 1 (.ptr N 0) fun f=>loadK d f fun f=>mQ (s101_4 F d k n m N e a b c) (sliceK 1 f (some (I 1)) none)
def s101_6:KQ:=fun e=>AV.ckOk c (F 188 [a,d,e,.fn (.func 189) [] [c]] H N fun d e f=>extK 0 d fun g=>extK 1 d fun d=>forceN (Nat.add m 0) fun h=>newK [I 0,I 0] e h fun i=>at_ i h fun i=>hput e h i fun i=>storeK 2 i (.ptr h 0) d fun _ d=>at_ H h fun i=>Blk.ckDead i (at_ e h fun e=>Blk.ckDead e (loadNK 2 d (.ptr h 0) fun e=>loadNK 2 d (.ptr 0 0) fun h=>eqA [0,1] .neq e h fun e=>cB e false (lssI g (I 10) fun e=>cB e (F 190 [a,g,b] d f fun a b c=>storeK 2 b (.ptr n1 0) a fun _ a=>loadNK 2 a (.ptr n1 0) fun b=>k b a c) (nilK a (faddrK 2 a fun a=>loadK d a fun a=>subI g (I 10) fun e=>iaddrK 2 a e fun a=>loadNK 2 d a fun a=>newK [I 0,.nilp] d f fun d=>forceN (Nat.succ f) fun e=>storeK 2 d (.ptr f 0) a fun _ a=>forceN (Nat.add e 1) fun d=>loadK a c fun g=>nilK g (faddrK 0 g fun g=>loadK a g fun g=>nilK g (faddrK 0 g fun g=>faddrK 0 g fun g=>loadK a g fun g=>faddrK 0 (.ptr f 0) fun h=>loadK a h fun h=>iaddrK 6 g h fun g=>loadNK 6 a g fun g=>forceN (Nat.add e 0) fun e=>newK [.str 0 0,.nils,.str 0 0,I 0,.nils,.nils] a e fun h=>at_ h e fun h=>hput a e h fun a=>storeK 6 a (.ptr e 0) g fun _ a=>loadK a c fun g=>nilK g (faddrK 0 g fun g=>loadK a g fun g=>F 23 [g] a d fun a d g=>nilK a (faddrK 0 a fun h=>loadK d h fun h=>faddrK 1 (.ptr f 0) fun f=>loadK d f fun f=>nilK f (faddrK 0 f fun f=>loadK d f fun f=>mR (s101_5 F k n n1 e b c a) fun a=>cpyK 1 d h f fun b c=>a b c g)))))))))))
def s101_7:KQ:=fun d=>F 88 [b,d] H N fun b d e=>forceN (Nat.add e 1) fun f=>loadK d c fun g=>loadK d c fun h=>nilK h (faddrK 2 h fun h=>faddrK 1 h fun h=>loadK d h fun h=>iaddrK 1 h (I 0) fun h=>loadK d h fun h=>F 81 [g,h] d f fun d f g=>mQ (s101_6 F f k n e g m a b c d) (lenSl b))
def s101(a:Nat):Hand:=fun b _ c d e f=>arg1 c fun c g=>arg0 g (boxE c d e fun c d=>forceN (Nat.succ e) fun e=>newK [I 0,I 0] d e fun d=>forceN (Nat.succ e) fun g=>loadK d c fun h=>nilK h (faddrK 0 h fun h=>loadK d h fun h=>nilK h (faddrK 5 h fun h=>loadK d h fun h=>loadK d c fun i=>loadK d c fun j=>nilK j (faddrK 2 j fun j=>faddrK 1 j fun j=>loadK d j fun j=>mQ (s101_7 b d f a e g h i c) (sliceK 1 j (some (I 1)) none)))))
theorem h101:HO 101 s101:=hO 1 (T2 L0 (T2 L0 (T2 L0 (T2 L0 (T2 (T2 L0 (T2 .stop L0)) (T2 (T2 L0 (T2 (T2 L0 L0) L0)) (T2 L0 (T2 L0 (T2 L0 (T2 L0 (T2 (T2 L0 (.one [] (.one [93] (T2 L0 (T2 (T2 L0 L0) (T2 (.one [] (T2 L0 L0)) L0)))))) (T2 L0 L0)))))))))))) Tryz.func101 Tryz.call101 fun N F G l H n k=>by kernel_rfl
def s102(_:Nat):Hand:=fun a _ b c d e=>arg1 b fun b f=>arg1 f fun _ f=>arg0 f (newK [I 0,I 0] c d fun c=>forceN (Nat.succ d) fun f=>a 103 [b] c f fun a b c=>storeK 2 b (.ptr d 0) a fun _ a=>loadNK 2 a (.ptr d 0) fun b=>e b a c)
theorem h102:HO 102 s102:=hO 2 (T2 L0 (T2 L0 L0)) Tryz.func102 Tryz.call102 fun N F G l H n k=>by kernel_rfl
def s103(_:Nat):Hand:=fun a _ b c d e=>arg1 b fun b f=>arg0 f (newK [I 0,I 0] c d fun c=>forceN (Nat.succ d) fun f=>forceN (Nat.add f 1) fun g=>nilK b (faddrK 2 b fun h=>faddrK 4 h fun h=>loadK c h fun h=>iaddrK 1 h (I 0) fun h=>loadK c h fun h=>nilK b (faddrK 8 b fun i=>loadK c i fun i=>AV.ckOne h (AV.ckOne i (forceN (Nat.add f 0) fun f=>newK [I 0,.nilp] c f fun j=>at_ j f fun j=>hput c f j fun c=>storeK 2 c (.ptr f 0) (.agg [h,i]) fun _ c=>nilK b (faddrK 2 b fun h=>faddrK 0 h fun h=>loadK c h fun h=>strB .eql h (.str 4 1684366702) fun h=>cB h false (nilK b (faddrK 0 b fun b=>loadK c b fun b=>loadNK 2 c (.ptr f 0) fun f=>a 24 [b,f] c g fun a b c=>notB a fun a=>cB a false (loadNK 2 b (.ptr 0 0) fun a=>storeK 2 b (.ptr d 0) a fun _ a=>loadNK 2 a (.ptr d 0) fun b=>e b a c)))))))))
theorem h103:HO 103 s103:=hO 1 (T2 L0 (T2 L0 (T2 (T2 L0 (T2 .stop L0)) (T2 (T2 L0 (T2 .stop L0)) (T2 L0 L0))))) Tryz.func103 Tryz.call103 fun N F G l H n k=>by kernel_rfl
def s107(_:Nat):Hand:=fun a _ b c d e=>arg1 b fun b f=>arg1 f fun _ f=>arg0 f (newK [I 0,I 0] c d fun c=>forceN (Nat.succ d) fun f=>nilK b (faddrK 0 b fun g=>loadK c g fun h=>nilK h (faddrK 5 h fun i=>loadK c i fun j=>nilK b (faddrK 2 b fun l=>faddrK 2 l fun l=>loadK c l fun m=>nilK b (faddrK 2 b fun o=>faddrK 1 o fun o=>loadK c o fun o=>iaddrK 1 o (I 0) fun o=>loadK c o fun o=>a 81 [b,o] c f fun f o p=>nilK b (faddrK 2 b fun q=>faddrK 1 q fun q=>loadK o q fun r=>iaddrK 1 r (I 1) fun s=>loadK o s fun t=>a 81 [b,t] o p fun p u v=>nilK b (faddrK 2 b fun w=>faddrK 1 w fun w=>loadK u w fun x=>iaddrK 1 x (I 2) fun y=>loadK u y fun z=>a 81 [b,z] u v fun b v A=>a 108 [j,m,f,p,b] v A fun a b f=>storeK 2 b (.ptr d 0) a fun _ a=>loadK o g fun b=>ifB (sameF 8 b h) (loadK u g fun b=>ifB (sameF 8 b h) (loadK v g fun b=>ifB (sameF 8 b h) (loadK o i fun b=>ifB (sameF 8 b j) (loadK u i fun b=>ifB (sameF 8 b j) (loadK v i fun b=>ifB (sameF 8 b j) (loadK o l fun b=>ifB (sameF 8 b m) (loadK u l fun b=>ifB (sameF 8 b m) (loadK v l fun b=>ifB (sameF 8 b m) (loadK c q fun b=>ifB (sameF 8 b r) (loadK c s fun b=>ifB (sameF 8 b t) (loadK c w fun b=>ifB (sameF 8 b x) (loadK o w fun b=>ifB (sameF 8 b x) (loadK c y fun b=>ifB (sameF 8 b z) (loadK o y fun b=>ifB (sameF 8 b z) (loadNK 2 a (.ptr d 0) fun b=>e b a f))))))))))))))))))))))
theorem h107:HO 107 s107:=hO 2 (T2 L0 (T2 L0 L0)) Tryz.func107 Tryz.call107 fun N F G l H n k=>by kernel_rfl
def s108_0:KJ:=fun _ d e=>F 83 [a,b,c] d e fun a b c=>storeK 2 b (.ptr n 0) a fun _ a=>loadNK 2 a (.ptr n 0) fun b=>k b a c
def s108_1:KR:=fun b c d=>pickK a fT b fun a=>cB a false (j [] c d)
def s108_2:KR:=fun b c d=>jRn a c d (s108_1 j a) fun a=>gtrI b (I 1099511627776) fun b=>a b c d
def s108_3:KR:=fun e f g=>pickK d fT e fun d=>cB d false (faddrK 1 (.ptr m 0) fun d=>loadK f d fun d=>faddrK 1 (.ptr N 0) fun e=>loadK f e fun e=>F 193 [b,d,e] f g fun b d e=>extK 0 b fun f=>extK 1 b fun g=>extK 2 b fun b=>mJ (s108_0 F k n a c f) fun h=>notB b fun b=>cB b (F 192 [a,c,g] d e fun a b c=>storeK 2 b (.ptr n 0) a fun _ a=>loadNK 2 a (.ptr n 0) fun b=>k b a c) (lssI f (.int .i64 (.negSucc 1099511627775)) fun a=>jRn a d e (s108_2 h a) fun a=>a f d e))
def s108_4:KR:=fun e f g=>jRn d f g (s108_3 F k n m N a b c d) fun a=>neqI e (I 1) fun b=>a b f g
def s108_5:KR:=fun e f g=>jRn d f g (s108_4 F k n m N a b c d) fun a=>loadK f e fun b=>a b f g
def s108_6:KJ:=fun _ f g=>F 114 [a,d] f g fun d f g=>F 114 [a,e] f g fun e f g=>newK [I 0,I 0,.str 0 0,.nils] f g fun f=>forceN (Nat.succ g) fun h=>newK [I 0,I 0,.str 0 0,.nils] f h fun f=>forceN (Nat.succ h) fun i=>storeK 4 f (.ptr g 0) d fun _ d=>storeK 4 d (.ptr h 0) e fun _ d=>faddrK 0 (.ptr g 0) fun e=>loadK d e fun e=>neqI e (I 1) fun e=>jRn e d i (s108_5 F k n g h a b c e) fun a=>faddrK 0 (.ptr h 0) fun b=>a b d i
def s108_7:KJ:=fun _ b c=>addI a (I 1) fun a=>j [a] b c
def s108_8:KJ→KJ:=fun c d e f=>arg1 d fun d _=>lssI d b fun b=>cB b (mJ (s108_7 c d) fun b=>iaddrK 1 (.sl n 0 2 (.known 2)) d fun c=>loadK e c fun c=>F 126 [a,c] e f fun a c d=>neqI a (.int .i64 (.negSucc 0)) fun a=>cB a false (b [] c d)) (j [] e f)
def s108_9:KQ:=fun f=>mJ (s108_6 F k m a b c d e) fun b=>iterN n (s108_8 F b N a f) [I 0] H n1
def s108_10:KR:=fun g h i=>pickK b fT g fun b=>cB b false (AV.ckOne e (AV.ckOne f (newK [e,f] h i fun b=>forceN (Nat.succ i) fun g=>mQ (s108_9 F b k n m i g a c d e f) (lenSl (.sl i 0 2 (.known 2))))))
def s108_11:KR:=fun g h i=>jRn b h i (s108_10 F k n m a b c d e f) fun a=>strB .eql g (.str 2 15708) fun b=>a b h i
def s108(a:Nat):Hand:=fun b _ c d e f=>arg1 c fun c g=>arg1 g fun g h=>arg1 h fun h i=>arg1 i fun i j=>arg1 j fun j l=>arg0 l (newK [I 0,I 0] d e fun d=>forceN (Nat.succ e) fun l=>strB .eql g (.str 2 15677) fun m=>jRn m d l (s108_11 b f a e c m g h i j) fun a=>a g d l)
theorem h108:HO 108 s108:=hO 5 (T2 L0 (T2 (T2 L0 (T2 .stop L0)) (T2 (T2 L0 (.one [] (.one [49] (T2 L0 (T2 (T2 L0 L0) (T2 (.one [] (T2 L0 (T2 L0 (T2 L0 (T2 .stop L0))))) L0)))))) (T2 L0 (T2 (T2 L0 (T2 .stop L0)) (T2 L0 (T2 (.one [] (T2 L0 (T2 (T2 L0 L0) (T2 L0 (T2 .stop L0))))) (T2 L0 L0)))))))) Tryz.func108 Tryz.call108 fun N F G l H n k=>by kernel_rfl
def s109_0:KJ:=fun _ b c=>addI a (I 1) fun a=>j [a] b c
def s109_1:KJ→KJ:=fun e f g h=>arg1 f fun f _=>lssI f b fun b=>cB b (mJ (s109_0 e f) fun b=>iaddrK 1 c f fun c=>loadK g c fun c=>nilK a (faddrK 0 a fun a=>loadK g a fun a=>iaddrK 1 d f fun d=>loadK g d fun d=>iaddrK 1 a c fun a=>storeK 1 g a d fun _ a=>b [] a h)) (j [] g h)
def s109_2:KQ:=fun d=>mJ (fun _ b c=>k a b c) fun e=>iterN n (s109_1 e a d b c) [I 0] H m
def s109(a:Nat):Hand:=fun b _ c d e f=>arg1 c fun c g=>arg1 g fun g h=>arg1 h fun h i=>arg0 i (nilK c (faddrK 0 c fun c=>loadK d c fun c=>b 67 [c] d e fun b c d=>AV.ckOne b (boxE (.agg [b]) c d fun b c=>forceN (Nat.succ d) fun d=>mQ (s109_2 c f a d b g h) (lenSl g))))
theorem h109:HO 109 s109:=hO 3 (T2 L0 (T2 L0 (T2 (T2 L0 (.one [] (.one [19] (T2 L0 (T2 (T2 L0 L0) (T2 (.one [] (T2 L0 L0)) L0)))))) (T2 L0 L0)))) Tryz.func109 Tryz.call109 fun N F G l H n k=>by kernel_rfl
def s110(_:Nat):Hand:=fun a _ b c d e=>arg1 b fun b f=>arg1 f fun f g=>arg0 g (boxE b c d fun b c=>forceN (Nat.succ d) fun d=>boxE f c d fun c f=>forceN (Nat.succ d) fun d=>newK [.nils] f d fun f=>forceN (Nat.succ d) fun g=>loadK f b fun h=>loadK f b fun i=>nilK i (faddrK 6 i fun i=>loadK f i fun i=>AV.ckOk b (AV.ckOk c (AV.ckOk (.ptr d 0) (a 194 [i,.fn (.func 195) [] [b,c,.ptr d 0]] f g fun a c f=>nilK h (faddrK 6 h fun g=>storeK 1 c g a fun _ a=>loadK c b fun b=>ifB (sameF 8 b h) (loadK a (.ptr d 0) fun b=>e b a f)))))))
theorem h110:HO 110 s110:=hO 2 (T2 L0 (T2 L0 (T2 L0 (T2 L0 L0)))) Tryz.func110 Tryz.call110 fun N F G l H n k=>by kernel_rfl
def s112(_:Nat):Hand:=fun a _ b c d e=>arg1 b fun b f=>arg1 f fun f g=>arg0 g (AV.ckOne f (newK [f] c d fun c=>forceN (Nat.succ d) fun g=>a 36 [b,.sl d 0 1 (.known 1)] c g fun c d g=>neqI c (I 0) fun c=>cB c false (a 38 [b,f] d g fun a b c=>AV.ckOk a (AV.ckOk (I 0) (e (.tup [a,I 0]) b c)))))
theorem h112:HO 112 s112:=hO 2 (T2 L0 (T2 (T2 L0 (T2 L0 (T2 .stop L0))) (T2 L0 L0))) Tryz.func112 Tryz.call112 fun N F G l H n k=>by kernel_rfl
def s113_0:KQ:=fun c=>pickK b c fF fun b=>loadK H (.ptr m 0) fun c=>ifB (sameF 8 c a) (k b K n)
def s113_1:KR:=fun c d e=>jQ b (s113_0 H d k e n a b) (notB c)
def s113_2:KQ:=fun d=>jR b K n (s113_1 H k m a b) (F 64 [c,d] K n)
def s113_3:KQ:=fun d=>jQ b (s113_2 F H K k n m a b d) fun a=>AV.ckOk (.ptr m 0) (AV.ckOk c (a (.fn (.func 201) [] [.ptr m 0,c])))
def s113(_:Nat):Hand:=fun a b c d e f=>arg1 c fun c g=>arg1 g fun g h=>arg0 h (boxE c d e fun c d=>forceN (Nat.succ e) fun e=>boxE g d e fun d g=>forceN (Nat.succ e) fun e=>AV.ckOk d (newK [.nilf] g e fun g=>forceN (Nat.succ e) fun h=>storeK 1 g (.ptr e 0) (.fn (.func 198) [] [d]) fun _ g=>loadK g (.ptr e 0) fun i=>loadK g c fun j=>a 121 [j] g h fun g h j=>callV a b i [g] h j fun b g j=>notB b fun b=>jQ b (s113_3 a h g f j e i b c) (loadK g d)))
theorem h113:HO 113 s113:=hO 2 (T2 L0 (T2 L0 (T2 L0 L0))) Tryz.func113 Tryz.call113 fun N F G l H n k=>by kernel_rfl
def s114(_:Nat):Hand:=fun a _ b c d e=>arg1 b fun b f=>arg1 f fun f g=>arg0 g (newK [I 0,I 0,.str 0 0,.nils] c d fun c=>forceN (Nat.succ d) fun g=>nilK b (faddrK 0 b fun b=>loadK c b fun b=>a 13 [b,f] c g fun a b c=>extK 0 a fun f=>extK 1 a fun _=>newK [I 0,I 0,.str 0 0,.nils] b c fun a=>forceN (Nat.succ c) fun b=>storeK 4 a (.ptr c 0) f fun _ a=>loadNK 4 a (.ptr c 0) fun c=>storeK 4 a (.ptr d 0) c fun _ a=>loadNK 4 a (.ptr d 0) fun c=>e c a b))
theorem h114:HO 114 s114:=hO 2 (T2 L0 (T2 L0 (T2 L0 L0))) Tryz.func114 Tryz.call114 fun N F G l H n k=>by kernel_rfl
def s115_0:KJ:=fun _ b c=>AV.ckOk a (AV.ckOk (I 0) (k (.tup [a,I 0]) b c))
def s115_1:KJ:=fun _ b c=>addI a (I 1) fun a=>j [a] b c
def s115_2:KR:=fun e f g=>nilK a (faddrK 1 a fun h=>storeK 1 f h b fun _ b=>nilK a (faddrK 2 a fun a=>storeK 1 b a e fun _ a=>loadK H c fun b=>ifB (sameF 8 b d) (at_ K n fun b=>Blk.ckDead b (j [] a g))))
def s115_3:KR:=fun c d e=>nilK a (faddrK 2 a fun f=>loadK d f fun g=>forceN (Nat.add n 1) fun h=>AV.ckOne b (newK [b] d h fun b=>at_ b h fun b=>hput d h b fun b=>mR (s115_2 j H d h a c f g) (appK 1 b e g (.sl h 0 1 (.known 1)))))
def s115_4:KJ:=fun _ c d=>faddrK 3 (.ptr n 0) fun e=>loadK c e fun e=>F 67 [e] c d fun c d e=>faddrK 3 (.ptr n 0) fun f=>storeK 1 d f c fun _ c=>forceN (Nat.add e 2) fun d=>nilK a (faddrK 1 a fun f=>loadK c f fun f=>loadNK 4 c (.ptr n 0) fun g=>forceN (Nat.add e 0) fun h=>Ev.layK 0 4 true g [I 0,I 0,.str 0 0,.nils] fun g=>newK g c h fun g=>at_ g h fun g=>hput c h g fun g=>mR (s115_3 j c e a b) (appK 4 g d f (.sl h 0 1 (.known 1))))
def s115_5:KJ→KJ:=fun d e f g=>arg1 e fun e _=>lssI e c fun c=>cB c (mJ (s115_1 d e) fun c=>iaddrK 4 a e fun a=>loadNK 4 f a fun a=>newK [I 0,I 0,.str 0 0,.nils] f g fun d=>forceN (Nat.succ g) fun f=>storeK 4 d (.ptr g 0) a fun _ a=>mJ (s115_4 F c g b e) fun b=>faddrK 0 (.ptr g 0) fun c=>loadK a c fun c=>eqlI c (I 0) fun c=>cB c (faddrK 1 (.ptr g 0) fun c=>storeK 1 a c e fun _ a=>b [] a f) (b [] a f)) (j [] f g)
def s115_6:KQ:=fun c=>mJ (s115_0 k b) fun d=>iterN n (s115_5 F d a b c) [I 0] H m
def s115_7:KR:=fun c d e=>pickK b fT c fun b=>cB b false (F 68 [] d e fun b c d=>mQ (s115_6 F c k n d a b) (lenSl a))
def s115_8:KR:=fun d e f=>jRn c e f (s115_7 F k n a c) fun a=>pickK b d fF fun b=>a b e f
def s115_9:KR:=fun d e f=>jR b e f (s115_8 F k n a b c) fun a=>notB d fun b=>a b e f
def s115_10:KR:=fun d e f=>jR b e f (s115_9 F k n a b c) (F 202 [d] e f)
def s115_11:KR:=fun d e f=>jR b e f (s115_10 F k n a b c) fun a=>AV.ckOne d (a (.agg [d,I 0]) e f)
def s115_12:KR:=fun c d e=>jR c d e (s115_11 F k n a c b) fun b=>b a d e
def s115_13:KR:=fun c d e=>jRn b d e (s115_12 F k n a b) fun a=>a c d e
def s115_14:KR:=fun c d e=>jRn b d e (s115_13 F k n a b) fun a=>gtrI c (I 0) fun b=>a b d e
def s115_15:KR:=fun c d e=>jRn b d e (s115_14 F k n a b) fun a=>mQ (fun b=>a b d e) (lenSl c)
def s115_16:KQ:=fun b=>gtrI b (I 8000) fun b=>jRn b H m (s115_15 F k n a b) fun b=>b a H m
def s115(a:Nat):Hand:=fun b _ c d e f=>arg1 c fun c g=>arg0 g (mQ (s115_16 b d f a e c) (lenSl c))
theorem h115:HO 115 s115:=hO 1 (T2 L0 (T2 (T2 L0 (T2 .stop L0)) (T2 L0 (T2 (T2 L0 (.one [] (.one [24] (T2 L0 (T2 (T2 L0 L0) (T2 (.one [] (T2 L0 (.join [] (T2 L0 (T2 L0 L0)) (T2 L0 L0)))) L0)))))) (T2 L0 L0))))) Tryz.func115 Tryz.call115 fun N F G l H n k=>by kernel_rfl
def s116_0:KJ:=fun _ a b=>k (.ptr n 0) a b
def s116_1:KJ:=fun _ b c=>addI a (I 1) fun a=>j [a] b c
def s116_2:KR:=fun a b c=>faddrK 6 (.ptr n 0) fun d=>storeK 1 b d a fun _ a=>j [] a c
def s116_3:KJ:=fun _ b c=>faddrK 6 (.ptr n 0) fun d=>loadK b d fun d=>AV.ckOne a (newK [a] b c fun a=>forceN (Nat.succ c) fun b=>mR (s116_2 j n) (appK 1 a b d (.sl c 0 1 (.known 1))))
def s116_4:KJ:=fun _ b c=>addI a (I 1) fun a=>j [a] b c
def s116_5:KR:=fun f g h=>nilK e (faddrK 0 e fun e=>storeK 1 g e f fun _ e=>loadK H a fun a=>ifB (sameF 8 a b) (loadK K c fun a=>ifB (sameF 8 a d) (j [] e h)))
def s116_6:KJ→KJ:=fun d e f g=>arg1 e fun e _=>lssI e c fun c=>cB c (mJ (s116_4 d e) fun c=>iaddrK 3 b e fun b=>loadNK 3 f b fun b=>newK [I 0,.nilp,.bool false] f g fun d=>forceN (Nat.succ g) fun e=>storeK 3 d (.ptr g 0) b fun _ b=>forceN (Nat.add e 1) fun d=>nilK a (faddrK 0 a fun f=>loadK b f fun h=>faddrK 0 (.ptr g 0) fun i=>loadNK 2 b i fun i=>F 203 [i,.ptr n 0] b d fun d i j=>faddrK 2 (.ptr g 0) fun g=>loadK i g fun l=>Ev.layK 0 2 true d [I 0,.nilp,.bool false] fun d=>Ev.layK 2 1 false l d fun d=>forceN (Nat.add e 0) fun e=>Ev.layK 0 3 true (.agg d) [I 0,.nilp,.bool false] fun d=>newK d i e fun d=>at_ d e fun d=>hput i e d fun d=>mR (s116_5 c i b f h g l a) (appK 3 d j h (.sl e 0 1 (.known 1))))) (j [] f g)
def s116_7:KQ:=fun c=>mJ (s116_3 j m a) fun d=>iterN n (s116_6 F d n1 a b c) [I 0] H N
def s116_8:KJ→KJ:=fun c d e f=>arg1 d fun d _=>lssI d b fun b=>cB b (mJ (s116_1 c d) fun b=>iaddrK 1 a d fun a=>loadK e a fun a=>forceN (Nat.add f 1) fun c=>nilK a (faddrK 1 a fun d=>loadK e d fun d=>nilK a (faddrK 2 a fun g=>loadK e g fun g=>AV.ckOne .nils (AV.ckOne d (AV.ckOne g (forceN (Nat.add f 0) fun f=>boxE (.agg [.nils,d,g]) e f fun d g=>at_ g f fun g=>hput e f g fun e=>nilK a (faddrK 0 a fun a=>loadK e a fun a=>mQ (s116_7 F b e n m c N d a) (lenSl a)))))))) (j [] e f)
def s116_9:KQ:=fun b=>mJ (s116_0 k m) fun c=>iterN n (s116_8 F c n m n1 a b) [I 0] H N
def s116(a:Nat):Hand:=fun b _ c d e f=>arg1 c fun c g=>arg0 g (b 25 [c] d e fun d e g=>notB d fun d=>cB d false (mkmapE e g fun d e=>forceN (Nat.succ g) fun g=>newK [.nilm] e g fun e=>forceN (Nat.succ g) fun h=>storeK 1 e (.ptr g 0) d fun _ d=>AV.ckOk (.ptr g 0) (nilK c (loadNK 9 d c fun e=>newK [.nils,.nils,I 0,I 0,.nilm,.nilp,.nils,.nils,I 0] d h fun d=>forceN (Nat.succ h) fun i=>storeK 9 d (.ptr h 0) e fun _ d=>nilK c (faddrK 5 c fun e=>loadK d e fun e=>b 204 [e,.fn (.func 203) [] [.ptr g 0]] d i fun d e i=>faddrK 5 (.ptr h 0) fun j=>storeK 1 e j d fun _ d=>faddrK 6 (.ptr h 0) fun e=>storeK 1 d e .nils fun _ d=>nilK c (faddrK 6 c fun c=>loadK d c fun c=>mQ (s116_9 b d f a h i g c) (lenSl c)))))))
theorem h116:HO 116 s116:=hO 1 (T2 L0 (T2 (T2 L0 (T2 .stop L0)) (T2 L0 (T2 L0 (T2 L0 (T2 L0 (T2 L0 (T2 (T2 L0 (.one [] (.one [32] (T2 L0 (T2 (T2 L0 L0) (T2 (.one [] (T2 L0 (T2 L0 (T2 (T2 L0 (.one [] (.one [51] (T2 L0 (T2 (T2 L0 L0) (T2 (.one [] (T2 L0 L0)) L0)))))) L0)))) L0)))))) (T2 L0 L0))))))))) Tryz.func116 Tryz.call116 fun N F G l H n k=>by kernel_rfl
def s117_0:KQ:=fun c=>extK 0 c fun d=>extK 1 c fun c=>loadK H a fun a=>ifB (sameF 8 a b) (cB c (k d H n) (k (.int .i64 (.negSucc 0)) H n))
def s117(_:Nat):Hand:=fun a _ b c d e=>arg1 b fun b f=>arg1 f fun f g=>arg1 g fun g h=>arg0 h (eqlI b (.int .i64 (.negSucc 0)) fun h=>cB h (e b c d) (loadK c f fun h=>loadK c g fun g=>nilK g (faddrK 5 g fun g=>loadK c g fun g=>a 118 [g,b] c d fun a b c=>mQ (s117_0 b e c f h) fun c=>AV.ckNum a (lookM [] (I 0) true h a b c))))
theorem h117:HO 117 s117:=hO 3 (T2 L0 (T2 (T2 L0 (T2 (T2 L0 L0) L0)) (T2 (T2 L0 (T2 L0 (T2 (T2 L0 L0) L0))) (T2 L0 L0)))) Tryz.func117 Tryz.call117 fun N F G l H n k=>by kernel_rfl
def s118(_:Nat):Hand:=fun a _ b c d e=>arg1 b fun b f=>arg1 f fun f g=>arg0 g (nilK b (faddrK 0 b fun b=>loadK c b fun b=>a 112 [b,f] c d fun a b c=>extK 0 a fun d=>extK 1 a fun _=>e d b c))
theorem h118:HO 118 s118:=hO 2 (T2 L0 (T2 L0 (T2 L0 L0))) Tryz.func118 Tryz.call118 fun N F G l H n k=>by kernel_rfl
def s119_0:KJ:=fun _ d e=>nilK a (faddrK 7 a fun f=>loadK d f fun f=>F 67 [f] d e fun d e f=>nilK a (faddrK 7 a fun g=>storeK 1 e g d fun _ d=>loadK d (.ptr n 0) fun e=>nilK a (faddrK 7 a fun g=>loadK d g fun g=>callV F G e [g] d f fun _ d e=>loadK d (.ptr n 0) fun f=>nilK a (faddrK 5 a fun g=>loadK d g fun g=>nilK g (faddrK 3 g fun g=>loadK d g fun g=>callV F G f [g] d e fun _ d e=>loadK d (.ptr n 0) fun f=>nilK a (faddrK 5 a fun g=>loadK d g fun g=>nilK g (faddrK 4 g fun g=>loadK d g fun g=>callV F G f [g] d e fun _ d e=>nilK a (faddrK 5 a fun f=>loadK d f fun g=>loadK d c fun c=>nilK a (faddrK 5 a fun h=>loadK d h fun h=>nilK h (faddrK 1 h fun h=>loadK d h fun h=>callV F G c [h] d e fun c d e=>nilK g (faddrK 1 g fun h=>storeK 1 d h c fun _ c=>loadK d f fun d=>ifB (sameF 8 d g) (nilK a (faddrK 5 a fun a=>loadK c a fun a=>nilK a (faddrK 0 a fun a=>storeK 1 c a b fun _ a=>k (.tup []) a e))))))))))))))
def s119_1:KJ:=fun _ j l=>F 207 [b] j l fun j l m=>mJ (s119_0 F G k n a f L) fun q=>rangeV F 119 j [1,1,1,1,1,1,1,0,1,0] [a,f,z,.bad,.bad,L,.ptr n 0,b,.bad,.bad,.bad,.bad,.bad,.bad,.bad,.bad,.fn (.func 205) [] [L],b,a,a,c,d,e,.bad,.bad,.bad,.bad,.bad,.bad,.bad,.bad,.bad,.bad,.bad,.bad,.bad,.bad,.bad,.bad,.bad,.bad,.bad,.bad,.bad,.bad,.bad,.bad,.bad,.bad,.bad,.bad,.bad,.bad,.bad,.bad,.bad,.bad,.bad,.bad,.bad,.bad,.bad,.bad,.bad,.bad,.bad,.bad,a,a,g,h,h,i,o,p,.bad,.bad,.bad,.bad,.bad,.bad,.bad,.bad,a,a,r,s,a,a,t,u,u,v,w,.fn (.func 206) [] [L],x,s,y,a,a,A,B,B,C,D,E,.bad,.bad,.bad,.bad,.bad,.bad,.bad,.bad,.bad,.bad,.bad,.bad,.bad,.bad,.bad,.bad,.bad,.bad,.bad,.bad,.bad,.bad,.bad,.bad,.bad,.bad,.bad,.bad,.bad,.bad,.bad,.bad,.bad,.bad,.bad,.bad,.bad,.bad,.bad,.bad,b,j,.bad,.bad,.bad,.bad,.bad,.bad,.bad,.bad,.bad,.bad,.bad,.bad,.bad,.bad,.bad,.bad,.bad,.bad,.bad,.bad,.bad,.bad,.bad,.bad,.bad,.bad,.bad,.bad,.bad,.bad,.bad,.bad,.bad,.bad,.bad,.bad,.bad,.bad,.bad,.bad,.bad,.bad,.bad,.bad,.bad,.bad,.bad,.bad,.bad,.bad,.bad,.bad,.bad,.bad,.bad,.bad,.bad,.bad,.bad,.bad,.bad] l m (q [])
def s119_2:KJ→KJ:=fun _ b c d=>arg1 b fun b _=>lssI b a fun a=>cB a false (j [] c d)
def s119_3:KQ:=fun j=>mJ (s119_1 F G k N a b c d e f g h i o p r s t u v w x y z A B C D j E) fun a=>iterN n (s119_2 a j) [I 0] H m
def s119_4:KJ:=fun _ j l=>nilK a (faddrK 5 a fun q=>loadK j q fun t=>nilK a (faddrK 5 a fun u=>loadK j u fun v=>nilK v (faddrK 6 v fun w=>loadK j w fun x=>AV.ckOk s (F 194 [x,.fn (.func 206) [] [s]] j l fun j l y=>nilK t (faddrK 6 t fun z=>storeK 1 l z j fun _ A=>loadK l q fun l=>ifB (sameF 8 l t) (nilK a (faddrK 5 a fun l=>loadK A l fun B=>nilK B (faddrK 6 B fun C=>loadK A C fun D=>mQ (s119_3 F G A k n y m a b c d e f g h i o p q t u v w x j z r l B C D s) (lenSl D)))))))))
def s119_5:KJ:=fun _ b c=>addI a (I 1) fun a=>j [a] b c
def s119_6:KJ→KJ:=fun d e f g=>arg1 e fun e _=>lssI e c fun c=>cB c (mJ (s119_5 d e) fun c=>iaddrK 2 b e fun b=>loadNK 2 f b fun b=>newK [I 0,.nilp] f g fun d=>forceN (Nat.succ g) fun e=>storeK 2 d (.ptr g 0) b fun _ b=>faddrK 1 (.ptr g 0) fun d=>loadK b d fun d=>mR (fun _ a b=>c [] a b) fun c=>AV.ckPN d (mapK [] b a d fT fun a b=>c a b e)) (j [] f g)
def s119_7:KQ:=fun j=>mJ (s119_4 F G k n N a b c d e f g h i o j p r) fun a=>iterN n (s119_6 a b o j) [I 0] H m
def s119_8:KJ:=fun _ i j=>nilK a (faddrK 5 a fun l=>loadK i l fun o=>nilK o (faddrK 2 o fun p=>loadK i p fun q=>mQ (s119_7 F G i k n j m a b c d e f l o p q g h) (lenSl q)))
def s119_9:KJ:=fun _ b c=>addI a (I 1) fun a=>j [a] b c
def s119_10:KJ:=fun _ d e=>F 41 [a,b] d e fun a d e=>notB a fun a=>cB a (nilK b (faddrK 1 b fun a=>storeK 1 d a (.int .i64 (.negSucc 0)) fun _ a=>loadK a c fun d=>nilK b (faddrK 1 b fun f=>loadK a f fun f=>callV F G d [f] a e fun d e f=>loadK e c fun g=>nilK b (faddrK 2 b fun h=>loadK e h fun i=>callV F G g [i] e f fun e f l=>nilK b (faddrK 1 b fun m=>storeK 1 f m d fun _ d=>nilK b (faddrK 2 b fun b=>storeK 1 d b e fun _ b=>loadK a c fun c=>ifB (sameF 8 c g) (loadK a h fun a=>ifB (sameF 8 a i) (j [] b l)))))))) false
def s119_11:KJ:=fun _ b c=>addI a (I 1) fun a=>j [a] b c
def s119_12:KJ→KJ:=fun d e f g=>arg1 e fun e _=>lssI e c fun c=>cB c (mJ (s119_11 d e) fun c=>iaddrK 3 b e fun b=>loadNK 3 f b fun b=>newK [I 0,.nilp,.bool false] f g fun d=>forceN (Nat.succ g) fun e=>storeK 3 d (.ptr g 0) b fun _ b=>faddrK 0 (.ptr g 0) fun d=>faddrK 1 d fun d=>loadK b d fun d=>mR (fun _ a b=>c [] a b) fun c=>AV.ckPN d (mapK [] b a d fT fun a b=>c a b e)) (j [] f g)
def s119_13:KQ:=fun f=>mJ (s119_10 F G j a c e) fun a=>iterN n (s119_12 a b d f) [I 0] H m
def s119_14:KJ→KJ:=fun f g h i=>arg1 g fun g _=>lssI g d fun d=>cB d (mJ (s119_9 f g) fun d=>iaddrK 1 c g fun c=>loadK h c fun c=>nilK c (faddrK 0 c fun f=>loadK h f fun f=>mQ (s119_13 F G d h n i a b c f e) (lenSl f))) (j [] h i)
def s119_15:KQ:=fun h=>mJ (s119_8 F G k n N a b c d h e f g) fun c=>iterN n (s119_14 F G c n a b d h g) [I 0] H m
def s119(a:Nat):Hand:=fun b c d e f g=>arg1 d fun d h=>arg1 h fun h i=>arg1 i fun i j=>arg0 j (boxE i e f fun e j=>forceN (Nat.succ f) fun f=>AV.ckOk e (newK [.nilf] j f fun j=>forceN (Nat.succ f) fun l=>storeK 1 j (.ptr f 0) (.fn (.func 205) [] [e]) fun _ j=>mkmapE j l fun j m=>forceN (Nat.succ l) fun l=>nilK d (faddrK 6 d fun o=>loadK m o fun p=>mQ (s119_15 b c m g a l f d j o p h i e) (lenSl p))))
theorem h119:HO 119 s119:=hO 3 (T2 L0 (T2 L0 (T2 L0 (T2 (T2 L0 (.one [] (.one [23] (T2 L0 (T2 (T2 L0 L0) (T2 (.one [] (T2 L0 (T2 (T2 L0 (.one [] (.one [32] (T2 L0 (T2 (T2 L0 L0) (T2 (.one [] (T2 L0 L0)) L0)))))) (T2 (T2 L0 (T2 L0 .stop)) L0)))) L0)))))) (T2 (T2 L0 (.one [] (.one [75] (T2 L0 (T2 (T2 L0 L0) (T2 (.one [] (T2 L0 L0)) L0)))))) (T2 L0 (T2 (T2 L0 (.one [] (.one [106] (T2 L0 (T2 (T2 .stop L0) .stop))))) (T2 (T2 L0 (.one [] L0)) (T2 L0 (T2 L0 (T2 L0 (T2 L0 (T2 L0 L0))))))))))))) Tryz.func119 Tryz.call119 fun N F G l H n k=>by kernel_rfl
def s120_0:KJ:=fun a b c=>arg1 a fun a _=>k a b c
def s120_1:KJ:=fun a b c=>arg1 a fun a d=>arg1 d fun d _=>j [a,d] b c
def s120_2:KR:=fun b c d=>j [a,b] c d
def s120_3:KR:=fun d e f=>callV F G a [b] e f fun a b e=>mR (s120_2 j d) (appK 1 b e c a)
def s120_4:KR:=fun _ e f=>AV.ckOne c (newK [c] e f fun e=>forceN (Nat.succ f) fun g=>mR (s120_3 F G j a c d) (appK 1 e g b (.sl f 0 1 (.known 1))))
def s120_5:KQ:=fun f=>notB f fun f=>cB f (mR (s120_4 F G j a b c e) fun a=>AV.ckNum c (mapK [] H d c fT fun b c=>a b c n)) (j [b,e] H n)
def s120_6:KQ:=fun e=>mQ (s120_5 F G j H n a b c d e) fun a=>AV.ckNum c (lookM [] fF false d c H a)
def s120_7:KQ:=fun f=>subI f (I 1) fun f=>mQ (s120_6 F G j H n a b d e) (sliceK 1 c none (some f))
def s120_8:KQ:=fun e=>subI e (I 1) fun e=>iaddrK 1 c e fun e=>loadK H e fun e=>mQ (s120_7 F G j H n a b c e d) (lenSl c)
def s120_9:KQ:=fun e=>gtrI e (I 0) fun e=>cB e (mJ (s120_1 J) fun e=>mQ (s120_8 F G e H n a b c d) (lenSl c)) (j [b] H n)
def s120_10:KJ→KJ:=fun c d e f=>arg1 d fun d g=>arg1 g fun g _=>mQ (s120_9 F G j c e f a d g b) (lenSl g)
def s120(a:Nat):Hand:=fun b c d e f g=>arg1 d fun d h=>arg1 h fun h i=>arg0 i (mkmapE e f fun e i=>forceN (Nat.succ f) fun f=>b 67 [d] i f fun d f i=>mJ (s120_0 g) fun g=>iterN a (s120_10 b c g h e) [.nils,d] f i)
theorem h120:HO 120 s120:=hO 2 (T2 L0 (T2 L0 (T2 L0 (T2 L0 (T2 (.one [5] (.one [5,7] (T2 (T2 L0 (T2 L0 L0)) (.one [5,7] (T2 L0 (T2 L0 (T2 L0 (T2 (T2 L0 (T2 L0 L0)) L0)))))))) (T2 L0 L0)))))) Tryz.func120 Tryz.call120 fun N F G l H n k=>by kernel_rfl
def s121_0:KJ:=fun b c d=>arg1 b fun b _=>F 209 [a,b] c d k
def s121_1:KJ:=fun b c d=>arg1 b fun b _=>addI a (I 1) fun a=>j [b,a] c d
def s121_2:KJ:=fun a b c=>arg1 a fun a _=>j [a] b c
def s121_3:KJ:=fun b c d=>arg1 b fun b _=>addI a (I 1) fun a=>j [b,a] c d
def s121_4:KJ→KJ:=fun d e f g=>arg1 e fun e h=>arg1 h fun h _=>lssI h c fun c=>cB c (mJ (s121_3 d h) fun c=>iaddrK 3 b h fun b=>loadNK 3 f b fun b=>newK [I 0,.nilp,.bool false] f g fun d=>forceN (Nat.succ g) fun f=>storeK 3 d (.ptr g 0) b fun _ b=>loadNK 3 b (.ptr g 0) fun d=>F 208 [a,d] b f fun a b d=>mR (fun a b d=>c [a] b d) (appK 1 b d e a)) (j [e] f g)
def s121_5:KQ:=fun d=>mJ (s121_2 j) fun e=>iterN n (s121_4 F e a c d) [b,I 0] H m
def s121_6:KJ→KJ:=fun d e f g=>arg1 e fun e h=>arg1 h fun h _=>lssI h c fun c=>cB c (mJ (s121_1 d h) fun c=>iaddrK 1 b h fun b=>loadK f b fun b=>nilK b (faddrK 2 b fun d=>loadK f d fun d=>neqI d (.int .i64 (.negSucc 0)) fun d=>cB d false (nilK b (faddrK 0 b fun b=>loadK f b fun b=>mQ (s121_5 F c f n g a e b) (lenSl b))))) (j [e] f g)
def s121_7:KQ:=fun d=>mJ (s121_0 F k a) fun e=>iterN n (s121_6 F e n a c d) [b,I 0] H m
def s121_8:KJ:=fun b c d=>arg1 b fun b _=>nilK a (faddrK 6 a fun e=>loadK c e fun e=>mQ (s121_7 F c k n d a b e) (lenSl e))
def s121_9:KJ:=fun b c d=>arg1 b fun b _=>addI a (I 1) fun a=>j [b,a] c d
def s121_10:KJ→KJ:=fun b c d e=>arg1 c fun c f=>arg1 f fun f _=>lssI f (I 8) fun g=>cB g (mJ (s121_9 b f) fun b=>nilK a (faddrK 5 a fun a=>loadK d a fun a=>nilK a (faddrK 1 a fun a=>loadK d a fun a=>addI a f fun a=>AV.ckOne a (newK [a] d e fun a=>forceN (Nat.succ e) fun d=>mR (fun a c d=>b [a] c d) (appK 1 a d c (.sl e 0 1 (.known 1))))))) (j [c] d e)
def s121(a:Nat):Hand:=fun b _ c d e f=>arg1 c fun c g=>arg0 g (b 25 [c] d e fun d e g=>notB d fun d=>cB d false (nilK c (faddrK 7 c fun d=>loadK e d fun d=>b 67 [d] e g fun d e g=>mJ (s121_8 b f a c) fun b=>iterN a (s121_10 b c) [d,I 0] e g)))
theorem h121:HO 121 s121:=hO 1 (T2 L0 (T2 (T2 L0 (T2 .stop L0)) (T2 L0 (T2 (T2 L0 (.one [3] (.one [3,17] (T2 L0 (T2 (T2 L0 L0) (T2 (.one [3] (T2 L0 L0)) L0)))))) (T2 (T2 L0 (.one [3] (.one [3,38] (T2 L0 (T2 (T2 L0 L0) (T2 (.one [3] (T2 L0 (T2 (T2 L0 (T2 .stop L0)) (T2 L0 (.one [3] (.one [3,59] (T2 L0 (T2 (T2 L0 L0) (T2 (.one [3] (T2 L0 L0)) L0))))))))) L0)))))) (T2 L0 L0)))))) Tryz.func121 Tryz.call121 fun N F G l H n k=>by kernel_rfl
def s122_0:KJ:=fun b c d=>arg1 b fun b _=>F 209 [a,b] c d k
def s122_1:KJ:=fun a b c=>arg1 a fun a _=>j [a] b c
def s122_2:KJ→KJ:=fun _ b c d=>arg1 b fun b e=>arg1 e fun e _=>lssI e a fun a=>cB a false (j [b] c d)
def s122_3:KQ:=fun a=>mJ (s122_1 j) fun b=>iterN n (s122_2 b a) [.nils,I 0] H m
def s122_4:KR:=fun c d e=>pickK b c fF fun b=>cB b (nilK a (faddrK 5 a fun b=>loadK d b fun b=>nilK b (faddrK 2 b fun b=>loadK d b fun b=>faddrK 1 (.ptr n 0) fun c=>loadK d c fun c=>subI c (I 10) fun c=>iaddrK 2 b c fun b=>loadNK 2 d b fun b=>F 211 [a,b] d e fun a b c=>j [a] b c))) (j [.nils] d e)
def s122_5:KR:=fun c d e=>jR b d e (s122_4 F j n a b) fun a=>geqI c (I 10) fun b=>a b d e
def s122_6:KR:=fun c d e=>jR b d e (s122_5 F j n a b) fun a=>loadK d c fun b=>a b d e
def s122_7:KR:=fun c d e=>pickK b c fF fun b=>cB b false (faddrK 0 (.ptr n 0) fun b=>loadK d b fun b=>eqlI b (I 4) fun b=>jR b d e (s122_6 F j n a b) fun a=>faddrK 1 (.ptr n 0) fun b=>a b d e)
def s122_8:KR:=fun c d e=>jR b d e (s122_7 F j n a b) fun a=>strB .eql c (.str 4 1953656688) fun b=>a b d e
def s122_9:KR:=fun c d e=>jR b d e (s122_8 F j n a b) fun a=>loadK d c fun b=>a b d e
def s122_10:KR:=fun c d e=>pickK b c fF fun b=>cB b false (faddrK 0 (.ptr n 0) fun b=>loadK d b fun b=>eqlI b (I 4) fun b=>jR b d e (s122_9 F j n a b) fun a=>faddrK 2 (.ptr n 0) fun b=>a b d e)
def s122_11:KR:=fun c d e=>jR b d e (s122_10 F j n a b) fun a=>strB .eql c (.str 4 1819043171) fun b=>a b d e
def s122_12:KR:=fun c d e=>jR b d e (s122_11 F j n a b) fun a=>loadK d c fun b=>a b d e
def s122(a:Nat):Hand:=fun b _ c d e f=>arg1 c fun c g=>arg1 g fun g h=>arg0 h (b 25 [c] d e fun d e h=>notB d fun d=>cB d false (nilK c (faddrK 5 c fun d=>loadK e d fun d=>nilK d (faddrK 0 d fun d=>loadK e d fun d=>b 13 [d,g] e h fun d e g=>extK 0 d fun h=>extK 1 d fun d=>newK [I 0,I 0,.str 0 0,.nils] e g fun e=>forceN (Nat.succ g) fun i=>storeK 4 e (.ptr g 0) h fun _ e=>neqI d (I 0) fun d=>cB d false (mJ (s122_0 b f c) fun d=>faddrK 0 (.ptr g 0) fun f=>loadK e f fun f=>eqlI f (I 3) fun f=>cB f false (faddrK 0 (.ptr g 0) fun f=>loadK e f fun f=>eqlI f (I 0) fun f=>cB f (nilK c (faddrK 5 c fun b=>loadK e b fun b=>nilK b (faddrK 6 b fun b=>loadK e b fun b=>mQ (s122_3 d e a i) (lenSl b)))) (faddrK 0 (.ptr g 0) fun a=>loadK e a fun a=>eqlI a (I 4) fun a=>jR a e i (s122_12 b d g c a) fun a=>faddrK 2 (.ptr g 0) fun b=>a b e i)))))))
theorem h122:HO 122 s122:=hO 2 (T2 L0 (T2 (T2 L0 (T2 .stop L0)) (T2 L0 (T2 (T2 L0 (T2 .stop L0)) (T2 L0 (T2 (.one [7] (T2 L0 (T2 .stop (T2 L0 (T2 (T2 L0 (.one [7] (.one [7,45] (T2 L0 (T2 (T2 .stop L0) .stop))))) (T2 L0 (T2 .stop (T2 L0 (T2 .stop (T2 L0 (T2 L0 L0))))))))))) (T2 L0 L0))))))) Tryz.func122 Tryz.call122 fun N F G l H n k=>by kernel_rfl
def s123_0:KQ:=fun b=>convI .u64 b fun c=>F 213 [c] H n fun c d e=>F 212 [a,I 0,b,c] d e fun _ a b=>k (.tup []) a b
def s123(_:Nat):Hand:=fun a _ b c d e=>arg1 b fun b f=>arg0 f (mQ (s123_0 a c e d b) (lenSl b))
theorem h123:HO 123 s123:=hO 1 (T2 L0 L0) Tryz.func123 Tryz.call123 fun N F G l H n k=>by kernel_rfl
def s124(_:Nat):Hand:=fun a _ b c d e=>arg1 b fun b f=>arg1 f fun f g=>arg0 g (loadK c f fun f=>a 125 [f,b] c d fun a b c=>notB a fun a=>e a b c)
theorem h124:HO 124 s124:=hO 2 (T2 L0 (T2 L0 L0)) Tryz.func124 Tryz.call124 fun N F G l H n k=>by kernel_rfl
def s125_0:KR:=fun b c d=>pickK a b fF fun a=>k a c d
def s125_1:KR:=fun c d e=>jR a d e (s125_0 k a) fun a=>lssI b c fun b=>a b d e
def s125_2:KR:=fun c d e=>jR a d e (s125_1 k a b) fun a=>mQ (fun b=>a b d e) (lenSl c)
def s125_3:KR:=fun c d e=>jR a d e (s125_2 k a b) fun a=>loadK d c fun b=>a b d e
def s125_4:KR:=fun c d e=>jR a d e (s125_3 k a b) fun a=>faddrK 1 c fun b=>a b d e
def s125_5:KR:=fun c d e=>jR a d e (s125_4 k a b) fun a=>nilK c (a c d e)
def s125_6:KR:=fun c d e=>jR b d e (s125_5 k b c) fun b=>b a d e
def s125(_:Nat):Hand:=fun _ _ a b c d=>arg1 a fun a e=>arg1 e fun e f=>arg0 f (geqI e (I 0) fun f=>jR f b c (s125_6 d a f) fun a=>a e b c)
theorem h125:HO 125 s125:=hO 2 (T2 L0 (T2 L0 L0)) Tryz.func125 Tryz.call125 fun N F G l H n k=>by kernel_rfl
def s126(_:Nat):Hand:=fun a _ b c d e=>arg1 b fun b f=>arg1 f fun f g=>arg0 g (a 114 [b,f] c d fun a b c=>newK [I 0,I 0,.str 0 0,.nils] b c fun b=>forceN (Nat.succ c) fun d=>storeK 4 b (.ptr c 0) a fun _ a=>faddrK 0 (.ptr c 0) fun b=>loadK a b fun b=>eqlI b (I 0) fun b=>cB b (faddrK 1 (.ptr c 0) fun b=>loadK a b fun b=>e b a d) (e (.int .i64 (.negSucc 0)) a d))
theorem h126:HO 126 s126:=hO 2 (T2 L0 (T2 (T2 L0 (T2 L0 (T2 (T2 L0 L0) L0))) (T2 L0 L0))) Tryz.func126 Tryz.call126 fun N F G l H n k=>by kernel_rfl
def s127_0:KJ:=fun _ d e=>faddrK 3 a fun a=>loadK d a fun a=>AV.ckOne a (AV.ckOne c (Ev.layK 0 3 true (.agg [a,.bool false,c]) [I 0,.bool false,.nils] fun a=>newK a d e fun a=>forceN (Nat.succ e) fun c=>AV.ckOne (.sl e 0 1 (.known 1)) (Ev.layK 0 4 true (.agg [.sl e 0 1 (.known 1),.nils,.bool false,I 0]) [.nils,.nils,.bool false,I 0] fun d=>newK d a c fun a=>forceN (Nat.succ c) fun d=>nilK b (faddrK 9 b fun e=>storeK 1 a e (.sl c 0 1 (.known 1)) fun _ a=>AV.ckOk b (AV.ckOk (I 0) (k (.tup [b,I 0]) a d))))))
def s127_1:KJ:=fun _ b c=>addI a (I 1) fun a=>j [a] b c
def s127_2:KJ→KJ:=fun c d e f=>arg1 d fun d _=>faddrK 2 a fun a=>loadK e a fun a=>lssI d a fun a=>cB a (mJ (s127_1 c d) fun a=>iaddrK 1 b d fun b=>storeK 1 e b d fun _ b=>a [] b f) (j [] e f)
def s127_3:KJ:=fun _ d e=>mJ (s127_0 k a b c) fun b=>iterN n (s127_2 b a c) [I 0] d e
def s127_4:KJ:=fun _ b c=>addI a (I 1) fun a=>j [a] b c
def s127_5:KQ:=fun c=>lssI b c fun c=>cB c (mJ (s127_4 J b) fun c=>iaddrK 1 a b fun a=>storeK 1 H a (.int .i64 (.negSucc 0)) fun _ a=>c [] a n) (j [] H n)
def s127_6:KJ→KJ:=fun b c d e=>arg1 c fun c _=>mQ (s127_5 j b d e a c) (lenSl a)
def s127_7:KQ:=fun c=>mkslK [I 0] c c H m fun c d=>forceN (Nat.succ m) fun e=>mJ (s127_3 k n a b c) fun a=>iterN n (s127_6 a c) [I 0] d e
def s127(a:Nat):Hand:=fun b _ c d e f=>arg1 c fun c g=>arg0 g (boxE c d e fun c d=>forceN (Nat.succ e) fun e=>loadNK 4 d c fun g=>b 214 [g] d e fun d e g=>notB d fun d=>cB d false (forceN (Nat.add g 1) fun d=>faddrK 2 c fun h=>loadK e h fun h=>b 215 [h] e d fun b d h=>loadNK 4 d c fun i=>Ev.layK 0 5 true b [.nilp,.nils,.nils,.nils,I 0,.nils,.nils,I 0,I 0,.nils,.nils,.nils,I 0,.bool false,.bool false] fun b=>Ev.layK 5 4 true i b fun b=>Ev.layK 13 1 false fT b fun b=>forceN (Nat.add g 0) fun g=>boxE (.agg b) d g fun b j=>at_ j g fun j=>loadNK 4 e c fun e=>ifB (sameF 8 e i) (hput d g j fun d=>faddrK 1 c fun e=>loadK d e fun e=>mQ (s127_7 d f a h c b) (lenSl e))))
theorem h127:HO 127 s127:=hO 1 (T2 L0 (T2 (T2 L0 (T2 .stop L0)) (T2 L0 (T2 L0 (T2 (T2 L0 (.one [] (.one [6] (T2 (T2 L0 (T2 L0 L0)) (T2 (.one [] L0) L0))))) (T2 (T2 L0 (.one [] (.one [7] (T2 (T2 L0 (T2 L0 L0)) (T2 (.one [] L0) L0))))) (T2 L0 (T2 L0 L0)))))))) Tryz.func127 Tryz.call127 fun N F G l H n k=>by kernel_rfl
def s128_0:KJ:=fun a b c=>arg1 a fun a _=>k a b c
def s128_1:KJ:=fun b c d=>arg1 b fun b _=>addI a (I 1) fun a=>j [b,a] c d
def s128_2:KJ→KJ:=fun b c d e=>arg1 c fun c f=>arg1 f fun f _=>F 216 [a] d e fun d e g=>lssI f d fun d=>cB d (mJ (s128_1 b f) fun b=>F 217 [a,f] e g fun a d e=>strB .eql a (.str 5 521375147378) fun a=>cB a (AV.ckOne f (newK [f] d e fun a=>forceN (Nat.succ e) fun d=>mR (fun a c d=>b [a] c d) (appK 1 a d c (.sl e 0 1 (.known 1))))) (b [c] d e)) (j [c] e g)
def s128(a:Nat):Hand:=fun b _ c d e f=>arg1 c fun c g=>arg0 g (mJ (s128_0 f) fun f=>iterN a (s128_2 b f c) [.nils,I 0] d e)
theorem h128:HO 128 s128:=hO 1 (T2 L0 (T2 L0 (T2 (T2 L0 (.one [3] (.one [3,4] (T2 (T2 L0 (T2 L0 L0)) (T2 (.one [3] (T2 L0 (T2 L0 L0))) L0))))) (T2 L0 L0)))) Tryz.func128 Tryz.call128 fun N F G l H n k=>by kernel_rfl
def s129_0:KR:=fun d e f=>pickK c fT d fun c=>cB c false (F 217 [a,b] e f fun c d e=>strB .neq c (.str 5 521375147378) fun c=>cB c false (nilK a (faddrK 12 a fun c=>loadK d c fun c=>addI c (I 1) fun c=>nilK a (faddrK 12 a fun f=>storeK 1 d f c fun _ c=>nilK a (faddrK 9 a fun d=>loadK c d fun d=>iaddrK 4 d b fun d=>faddrK 1 d fun d=>storeK 1 c d .nils fun _ c=>F 219 [a,b] c e fun _ b c=>F 220 [a] b c fun a b c=>notB a fun a=>cB a false (AV.ckOk fT (AV.ckOk (I 0) (k (.tup [.bool true,I 0]) b c))))))))
def s129_1:KR:=fun e f g=>jRn d f g (s129_0 F k a c d) fun a=>geqI b e fun b=>a b f g
def s129_2:KR:=fun e f g=>jRn d f g (s129_1 F k a b c d) fun a=>mQ (fun b=>a b f g) (lenSl e)
def s129_3:KR:=fun e f g=>jRn d f g (s129_2 F k a b c d) fun a=>loadK f e fun b=>a b f g
def s129_4:KR:=fun e f g=>jRn d f g (s129_3 F k a b c d) fun a=>faddrK 9 e fun b=>a b f g
def s129_5:KR:=fun e f g=>jRn d f g (s129_4 F k a b c d) fun a=>nilK e (a e f g)
def s129_6:KR:=fun d e f=>jRn c e f (s129_5 F k a d b c) fun b=>b a e f
def s129(_:Nat):Hand:=fun a _ b c d e=>arg1 b fun b f=>arg1 f fun f g=>arg0 g (a 218 [b] c d fun c d g=>notB c fun c=>cB c false (lssI f (I 0) fun c=>jRn c d g (s129_6 a e b f c) fun a=>a f d g))
theorem h129:HO 129 s129:=hO 2 (T2 L0 (T2 (T2 L0 (T2 .stop L0)) (T2 (T2 L0 (T2 .stop L0)) (T2 (T2 L0 (T2 .stop L0)) (T2 L0 (T2 L0 (T2 L0 (T2 (T2 L0 (T2 .stop L0)) (T2 L0 L0))))))))) Tryz.func129 Tryz.call129 fun N F G l H n k=>by kernel_rfl
def s130_0:KJ:=fun a b c=>arg1 a fun a _=>AV.ckOk a (AV.ckOk (I 0) (AV.ckOk (I 0) (k (.tup [a,I 0,I 0]) b c)))
def s130_1:KJ:=fun a b c=>arg1 a fun a d=>arg1 d fun d _=>j [a,d] b c
def s130_2:KR:=fun c d e=>F 222 [a,b] d e fun a b d=>j [c,a] b d
def s130_3:KQ:=fun d=>geqI d (I 1200) fun d=>cB d false (loadNK 3 H (.ptr n 0) fun d=>Ev.layK 0 3 true d [I 0,.str 0 0,I 0] fun d=>newK d H m fun d=>forceN (Nat.succ m) fun e=>mR (s130_2 F j a c) (appK 3 d e b (.sl m 0 1 (.known 1))))
def s130_4:KQ:=fun d=>lssI c d fun d=>cB d (mJ (s130_1 J) fun d=>F 223 [a,c] H n fun c e f=>extK 0 c fun g=>extK 1 c fun h=>extK 2 c fun c=>newK [I 0,.str 0 0,I 0] e f fun e=>forceN (Nat.succ f) fun i=>storeK 3 e (.ptr f 0) g fun _ e=>notB c fun c=>cB c false (mQ (s130_3 F d e f i a b h) (lenSl b))) (j [b] H n)
def s130_5:KJ→KJ:=fun b c d e=>arg1 c fun c f=>arg1 f fun f _=>mQ (s130_4 F j b d e a c f) (lenStr a)
def s130_6:KQ:=fun b=>gtrI b (I 4000) fun b=>cB b false (F 222 [a,I 0] H m fun b c d=>mJ (s130_0 k) fun e=>iterN n (s130_5 F e a) [.nils,b] c d)
def s130(a:Nat):Hand:=fun b _ c d e f=>arg1 c fun c g=>arg0 g (mQ (s130_6 b d f a e c) (lenStr c))
theorem h130:HO 130 s130:=hO 1 (T2 L0 (T2 (T2 L0 (T2 .stop L0)) (T2 L0 (T2 L0 (T2 (.one [5] (.one [5,6] (T2 (T2 L0 (T2 L0 L0)) (.one [5,6] (T2 L0 (T2 (T2 L0 (T2 .stop L0)) (T2 (T2 L0 (T2 .stop L0)) (T2 L0 L0)))))))) (T2 L0 L0)))))) Tryz.func130 Tryz.call130 fun N F G l H n k=>by kernel_rfl
def s131(_:Nat):Hand:=fun a _ b c d e=>arg1 b fun b f=>arg0 f (newK [.str 0 0,.str 0 0,I 0,.nils] c d fun c=>forceN (Nat.succ d) fun f=>nilK b (faddrK 2 b fun g=>loadK c g fun g=>cB g false (a 224 [b] c f fun c f g=>newK [.str 0 0,.str 0 0,I 0,.nils] f g fun f=>forceN (Nat.succ g) fun h=>storeK 4 f (.ptr g 0) c fun _ c=>a 225 [b,.str 1 124] c h fun a b c=>cB a false (loadNK 4 b (.ptr g 0) fun a=>storeK 4 b (.ptr d 0) a fun _ a=>loadNK 4 a (.ptr d 0) fun b=>e b a c))))
theorem h131:HO 131 s131:=hO 1 (T2 L0 (T2 (T2 L0 (T2 .stop L0)) (T2 L0 (T2 (T2 L0 (T2 .stop L0)) (T2 L0 L0))))) Tryz.func131 Tryz.call131 fun N F G l H n k=>by kernel_rfl
def s132_0:KQ:=fun b=>eqlI b (I 1) fun b=>cB b (iaddrK 4 a (I 0) fun a=>loadNK 4 H a fun a=>storeK 4 H (.ptr n 0) a fun _ a=>loadNK 4 a (.ptr n 0) fun b=>k b a m) (AV.ckOne (.str 3 7431539) (AV.ckOne a (storeK 4 H (.ptr n 0) (.agg [.str 3 7431539,.str 0 0,I 0,a]) fun _ a=>loadNK 4 a (.ptr n 0) fun b=>k b a m)))
def s132_1:KJ:=fun a b c=>arg1 a fun a _=>mQ (s132_0 b k n c a) (lenSl a)
def s132_2:KJ:=fun a b c=>arg1 a fun a _=>j [a] b c
def s132_3:KJ→KJ:=fun b c d e=>arg1 c fun c _=>F 227 [a] d e fun d e f=>cB d (mJ (s132_2 b) fun b=>F 226 [a] e f fun a d e=>Ev.layK 0 4 true a [.str 0 0,.str 0 0,I 0,.nils] fun a=>newK a d e fun a=>forceN (Nat.succ e) fun d=>mR (fun a c d=>b [a] c d) (appK 4 a d c (.sl e 0 1 (.known 1)))) (j [c] e f)
def s132(a:Nat):Hand:=fun b _ c d e f=>arg1 c fun c g=>arg0 g (newK [.str 0 0,.str 0 0,I 0,.nils] d e fun d=>forceN (Nat.succ e) fun g=>b 226 [c] d g fun d g h=>Ev.layK 0 4 true d [.str 0 0,.str 0 0,I 0,.nils] fun d=>newK d g h fun d=>forceN (Nat.succ h) fun g=>mJ (s132_1 f e) fun e=>iterN a (s132_3 b e c) [.sl h 0 1 (.known 1)] d g)
theorem h132:HO 132 s132:=hO 1 (T2 L0 (T2 L0 (T2 (.one [3] (.one [3] (T2 (T2 L0 (T2 L0 L0)) (.one [3] L0)))) (T2 (T2 L0 (T2 (T2 L0 L0) L0)) (T2 L0 L0))))) Tryz.func132 Tryz.call132 fun N F G l H n k=>by kernel_rfl
def s133_0:KJ:=fun _ b c=>addI a (I 1) fun a=>j [a] b c
def s133_1:KQ:=fun c=>lssI b c fun c=>cB c (mJ (s133_0 J b) fun c=>iaddrK 4 a b fun a=>loadNK 4 H a fun a=>F 48 [a] H n fun a b d=>notB a fun a=>cB a false (c [] b d)) (j [] H n)
def s133_2:KJ→KJ:=fun b c d e=>arg1 c fun c _=>mQ (s133_1 F j b d e a c) (lenSl a)
def s133(a:Nat):Hand:=fun b _ c d e f=>arg1 c fun c g=>arg0 g (mJ (fun _ a b=>f fT a b) fun f=>iterN a (s133_2 b f c) [I 0] d e)
theorem h133:HO 133 s133:=hO 1 (T2 L0 (T2 (T2 L0 (.one [] (.one [3] (T2 (T2 L0 (T2 L0 L0)) (T2 (.one [] (T2 L0 (T2 .stop L0))) L0))))) (T2 L0 L0))) Tryz.func133 Tryz.call133 fun N F G l H n k=>by kernel_rfl
def s134_0:KR:=fun b c d=>pickK a b fF fun a=>k a c d
def s134_1:KR:=fun c d e=>jR b d e (s134_0 k b) fun b=>pickK a fT c fun a=>b a d e
def s134_2:KR:=fun c d e=>jRn a d e (s134_1 k a b) fun a=>gtrI c (I 0) fun b=>a b d e
def s134_3:KR:=fun c d e=>jRn a d e (s134_2 k a b) fun a=>mQ (fun b=>a b d e) (lenSl c)
def s134_4:KR:=fun c d e=>jRn c d e (s134_3 k c b) fun b=>b a d e
def s134_5:KR:=fun c d e=>jR b d e (s134_4 k a b) fun a=>a c d e
def s134_6:KR:=fun c d e=>jR b d e (s134_5 k a b) fun a=>notB c fun b=>a b d e
def s134_7:KJ:=fun _ c d=>F 229 [a] c d fun c d e=>jR c d e (s134_6 k a c) fun a=>a b d e
def s134_8:KJ:=fun b c d=>arg1 b fun b e=>arg1 e fun e f=>arg1 f fun f g=>arg1 g fun g h=>arg1 h fun h i=>arg1 i fun i l=>arg1 l fun l m=>arg1 m fun m o=>arg1 o fun o p=>arg1 p fun p q=>arg1 q fun q r=>arg1 r fun r s=>arg1 s fun s t=>arg1 t fun t u=>arg1 u fun u v=>arg1 v fun v w=>arg1 w fun w _=>addI a (I 1) fun a=>j [a,b,e,f,g,h,i,l,m,o,p,q,r,s,t,u,v,w] c d
def s134_9:KR:=fun l m q=>pickK a fT l fun a=>cB a false (j [b,c,d,e,f,g,h,i,o,p,r,s,t,u,v,w,l] m q)
def s134_10:KR:=fun l m q=>jRn a m q (s134_9 j a b c d e f g h i o p r s t u v l) fun a=>pickK h l fF fun b=>a b m q
def s134_11:KR:=fun l m q=>jR h m q (s134_10 j a b c d e f g h i o p r s t u l) fun a=>pickK o fT l fun b=>a b m q
def s134_12:KR:=fun l m q=>jRn o m q (s134_11 j a b c d e f g h i o p r s t l) fun a=>strB .neq l (.str 3 7958113) fun b=>a b m q
def s134_13:KR:=fun l m q=>jRn o m q (s134_12 j a b c d e f g h i o p r s l) fun a=>loadK m l fun b=>a b m q
def s134_14:KR:=fun l m q=>jRn o m q (s134_13 j a b c d e f g h i o p r l) fun a=>faddrK 0 l fun b=>a b m q
def s134_15:KR:=fun l m q=>jRn o m q (s134_14 j a b c d e f g h i o p l) fun a=>iaddrK 4 p l fun b=>a b m q
def s134_16:KR:=fun l m q=>jRn o m q (s134_15 j a b c d e f g h i o l) fun a=>a p m q
def s134_17:KR:=fun l m q=>jRn l m q (s134_16 j b c d e f g h i o l p) fun b=>b a m q
def s134_18:KR:=fun l m p=>jR i m p (s134_17 j a b c d e f g h i l o) fun a=>a l m p
def s134_19:KR:=fun l m p=>jR l m p (s134_18 j a b c d e f g h l o) fun a=>a i m p
def s134_20:KR:=fun l m o=>jRn b m o (s134_19 j a b c d e f g l h i) fun a=>a l m o
def s134_21:KR:=fun i l m=>jRn b l m (s134_20 j a b c d e f i g h) fun a=>strB .neq i (.str 3 7496054) fun b=>a b l m
def s134_22:KR:=fun h i l=>jRn b i l (s134_21 j a b c d e h f g) fun a=>loadK i h fun b=>a b i l
def s134_23:KR:=fun g h i=>jRn b h i (s134_22 j a b c d g e f) fun a=>faddrK 0 g fun b=>a b h i
def s134_24:KR:=fun f g h=>jRn b g h (s134_23 j a b c f d e) fun a=>iaddrK 4 c f fun b=>a b g h
def s134_25:KR:=fun e f g=>jRn b f g (s134_24 j a b e c d) fun a=>a d f g
def s134_26:KQ:=fun d=>lssI c d fun d=>cB d (mJ (s134_8 J c) fun d=>iaddrK 4 a c fun e=>loadNK 4 H e fun e=>F 228 [e] H n fun e f g=>notB e fun e=>jRn e f g (s134_25 d a e b c) fun b=>b a f g) (j [] H n)
def s134_27:KJ→KJ:=fun c d e f=>arg1 d fun d g=>arg1 g fun _ g=>arg1 g fun _ g=>arg1 g fun _ g=>arg1 g fun _ g=>arg1 g fun _ g=>arg1 g fun _ g=>arg1 g fun _ g=>arg1 g fun _ g=>arg1 g fun _ g=>arg1 g fun _ g=>arg1 g fun _ g=>arg1 g fun _ g=>arg1 g fun _ g=>arg1 g fun _ g=>arg1 g fun _ g=>arg1 g fun _ g=>arg1 g fun _ _=>mQ (s134_26 F j c e f a b d) (lenSl a)
def s134(a:Nat):Hand:=fun b _ c d e f=>arg1 c fun c g=>arg1 g fun g h=>arg0 h (mJ (s134_7 b f c g) fun f=>iterN a (s134_27 b f c g) [I 0,.bad,.bad,.bad,.bad,.bad,.bad,.bad,.bad,.bad,.bad,.bad,.bad,.bad,.bad,.bad,.bad,.bad] d e)
theorem h134:HO 134 s134:=hO 2 (T2 L0 (T2 (T2 L0 (.one [] (.one [5,19,20,21,22,23,24,25,26,27,28,29,30,31,32,33,34,35] (T2 (T2 L0 (T2 L0 L0)) (T2 (.one [19,20,21,22,23,24,25,26,27,28,29,30,31,32,33,34,35] (T2 L0 (T2 .stop L0))) L0))))) (T2 L0 L0))) Tryz.func134 Tryz.call134 fun N F G l H n k=>by kernel_rfl
def s135_0:KJ:=fun _ b c=>addI a (I 1) fun a=>j [a] b c
def s135_1:KQ:=fun c=>lssI b c fun c=>cB c (mJ (s135_0 J b) fun c=>iaddrK 4 a b fun a=>loadNK 4 H a fun a=>F 136 [a] H n fun a b d=>notB a fun a=>cB a false (c [] b d)) (j [] H n)
def s135_2:KJ→KJ:=fun b c d e=>arg1 c fun c _=>mQ (s135_1 F j b d e a c) (lenSl a)
def s135(a:Nat):Hand:=fun b _ c d e f=>arg1 c fun c g=>arg0 g (mJ (fun _ a b=>f fT a b) fun f=>iterN a (s135_2 b f c) [I 0] d e)
theorem h135:HO 135 s135:=hO 1 (T2 L0 (T2 (T2 L0 (.one [] (.one [3] (T2 (T2 L0 (T2 L0 L0)) (T2 (.one [] (T2 L0 (T2 .stop L0))) L0))))) (T2 L0 L0))) Tryz.func135 Tryz.call135 fun N F G l H n k=>by kernel_rfl
def s136_0:KJ:=fun _ b c=>loadNK 4 b a fun a=>F 228 [a] b c k
def s136_1:KR:=fun b c d=>pickK a b fF fun a=>k a c d
def s136_2:KR:=fun b c d=>jR a c d (s136_1 k a) (F 135 [b] c d)
def s136_3:KR:=fun b c d=>jR a c d (s136_2 F k a) fun a=>loadK c b fun b=>a b c d
def s136_4:KR:=fun c d e=>pickK b c fF fun b=>jR b d e (s136_3 F k b) fun b=>faddrK 3 a fun a=>b a d e
def s136_5:KR:=fun c d e=>jR b d e (s136_4 F k a b) fun a=>leqI c (I 8) fun b=>a b d e
def s136_6:KR:=fun d e f=>pickK b d fF fun b=>jR b e f (s136_5 F k a b) fun a=>a c e f
def s136_7:KR:=fun d e f=>jR b e f (s136_6 F k a b c) fun a=>geqI d (I 1) fun b=>a b e f
def s136_8:KR:=fun d e f=>pickK b d fF fun b=>jR b e f (s136_7 F k a b c) fun a=>a c e f
def s136_9:KR:=fun d e f=>jR b e f (s136_8 F k a b c) (F 231 [d] e f)
def s136_10:KR:=fun d e f=>jR b e f (s136_9 F k a b c) fun a=>loadK e d fun b=>a b e f
def s136_11:KR:=fun b c d=>pickK a b fF fun a=>k a c d
def s136_12:KR:=fun b c d=>jR a c d (s136_11 k a) (F 135 [b] c d)
def s136_13:KR:=fun b c d=>jR a c d (s136_12 F k a) fun a=>loadK c b fun b=>a b c d
def s136_14:KR:=fun c d e=>pickK a c fF fun a=>jR a d e (s136_13 F k a) fun a=>faddrK 3 b fun b=>a b d e
def s136_15:KR:=fun c d e=>jR a d e (s136_14 F k a b) fun a=>eqlI c (I 2) fun b=>a b d e
def s136_16:KR:=fun d e f=>pickK c d fF fun c=>jR c e f (s136_15 F k c a) fun a=>a b e f
def s136_17:KR:=fun d e f=>jR c e f (s136_16 F k a b c) (F 230 [d,.bool true,.bool false,.bool true] e f)
def s136_18:KJ:=fun c d e=>arg1 c fun c _=>jR c d e (s136_17 F k a b c) fun b=>loadNK 4 d a fun a=>b a d e
def s136_19:KJ:=fun b c d=>arg1 b fun b e=>arg1 e fun e f=>arg1 f fun f g=>arg1 g fun g h=>arg1 h fun h i=>arg1 i fun i l=>arg1 l fun l m=>arg1 m fun m _=>addI a (I 1) fun a=>j [b,a,e,f,g,h,i,l,m] c d
def s136_20:KQ:=fun h=>pickK a fT h fun a=>j [a,b,c,d,e,f,g,h] H n
def s136_21:KQ:=fun g=>jQn a (s136_20 j H n a b c d e f g) (strB .eql e g)
def s136_22:KQ:=fun f=>jQn a (s136_21 j H n a b c d e f) (loadK H f)
def s136_23:KQ:=fun f=>jQn a (s136_22 j H n a b c d f) (faddrK 1 e)
def s136_24:KQ:=fun e=>jQn a (s136_23 j H n a b c e d) (loadK H e)
def s136_25:KQ:=fun d=>jQn a (s136_24 j H n a b d c) (iaddrK 1 b d)
def s136_26:KQ:=fun d=>jQn a (s136_25 j H n a d c) fun a=>a b
def s136_27:KQ:=fun d=>lssI b d fun d=>cB d (mJ (s136_19 J b) fun d=>jQn a (s136_26 d H n a b c) fun a=>a (.sl m 0 9 (.known 9))) (j [a] H n)
def s136_28:KJ→KJ:=fun b c d e=>arg1 c fun c f=>arg1 f fun f g=>arg1 g fun _ g=>arg1 g fun _ g=>arg1 g fun _ g=>arg1 g fun _ g=>arg1 g fun _ g=>arg1 g fun _ g=>arg1 g fun _ _=>mQ (s136_27 j b d e n c f a) (lenSl (.sl n 0 9 (.known 9)))
def s136_29:KQ:=fun b=>faddrK 0 a fun c=>loadK H c fun c=>mJ (s136_0 F k a) fun d=>strB .eql c (.str 5 435611006324) fun e=>cB e (loadNK 4 H a fun c=>F 230 [c,.bool true,.bool false,.bool true] H m fun c d e=>jR c d e (s136_10 F k a c b) fun b=>faddrK 1 a fun a=>b a d e) (strB .eql c (.str 2 28783) fun e=>cB e (AV.ckOne (.str 1 43) (AV.ckOne (.str 1 45) (AV.ckOne (.str 1 42) (AV.ckOne (.str 2 15677) (AV.ckOne (.str 2 15708) (AV.ckOne (.str 1 60) (AV.ckOne (.str 2 15421) (AV.ckOne (.str 1 62) (AV.ckOne (.str 2 15678) (newK [.str 1 43,.str 1 45,.str 1 42,.str 2 15677,.str 2 15708,.str 1 60,.str 2 15421,.str 1 62,.str 2 15678] H m fun c=>forceN (Nat.succ m) fun d=>mJ (s136_18 F k a b) fun b=>iterN n (s136_28 b m a) [.bool false,I 0,.bad,.bad,.bad,.bad,.bad,.bad,.bad] c d)))))))))) (strB .eql c (.str 4 1819042147) fun a=>cB a false (strB .eql c (.str 2 28262) fun a=>cB a false (strB .eql c (.str 2 29296) fun a=>cB a false (strB .eql c (.str 6 111542271243622) fun a=>cB a false (strB .eql c (.str 3 7628140) fun a=>cB a false (strB .eql c (.str 4 1684959075) fun a=>cB a false (d [] H m))))))))
def s136(a:Nat):Hand:=fun b _ c d e f=>arg1 c fun c g=>arg0 g (boxE c d e fun c d=>forceN (Nat.succ e) fun e=>faddrK 3 c fun g=>loadK d g fun g=>mQ (s136_29 b d f a e c) (lenSl g))
theorem h136:HO 136 s136:=hO 1 (T2 L0 (T2 L0 (T2 (T2 L0 (.one [] (T2 L0 (T2 (T2 L0 L0) (T2 L0 (T2 (T2 L0 (T2 L0 (T2 (T2 L0 (.one [5] (.one [5,6,45,46,47,48,49,50,51] (T2 (T2 L0 (T2 L0 L0)) (T2 (.one [5,45,46,47,48,49,50,51] L0) L0))))) (T2 L0 L0)))) (T2 L0 (T2 .stop (T2 L0 (T2 .stop (T2 L0 (T2 .stop (T2 L0 (T2 .stop (T2 L0 (T2 .stop (T2 L0 (T2 .stop L0)))))))))))))))))) (T2 L0 L0)))) Tryz.func136 Tryz.call136 fun N F G l H n k=>by kernel_rfl
def s138_0:KJ:=fun _ b c=>addI a (I 1) fun a=>j [a] b c
def s138_1:KQ:=fun c=>lssI b c fun c=>cB c (mJ (s138_0 J b) fun c=>indexStrK a b fun a=>F 233 [a] H n fun a b d=>notB a fun a=>cB a false (c [] b d)) (j [] H n)
def s138_2:KJ→KJ:=fun b c d e=>arg1 c fun c _=>mQ (s138_1 F j b d e a c) (lenStr a)
def s138_3:KR:=fun c d e=>pickK b fT c fun b=>cB b (k fF d e) (mJ (fun _ a b=>k fT a b) fun b=>iterN n (s138_2 F b a) [I 0] d e)
def s138_4:KR:=fun c d e=>jRn b d e (s138_3 F k n a b) fun a=>gtrI c (I 16) fun b=>a b d e
def s138_5:KR:=fun c d e=>jRn b d e (s138_4 F k n a b) fun a=>mQ (fun b=>a b d e) (lenStr c)
def s138_6:KQ:=fun b=>lssI b (I 1) fun b=>jRn b H m (s138_5 F k n a b) fun b=>b a H m
def s138(a:Nat):Hand:=fun b _ c d e f=>arg1 c fun c g=>arg0 g (mQ (s138_6 b d f a e c) (lenStr c))
theorem h138:HO 138 s138:=hO 1 (T2 L0 (T2 (T2 L0 (T2 (T2 L0 L0) L0)) (T2 (T2 L0 (.one [] (.one [3] (T2 (T2 L0 (T2 L0 L0)) (T2 (.one [] (T2 L0 (T2 .stop L0))) L0))))) (T2 L0 L0)))) Tryz.func138 Tryz.call138 fun N F G l H n k=>by kernel_rfl
def s139_0:KQ:=fun a=>subI a (I 1) fun a=>k a H n
def s139_1:KR:=fun b c d=>nilK a (faddrK 0 a fun e=>faddrK 0 e fun e=>storeK 1 c e b fun _ b=>nilK a (faddrK 0 a fun a=>faddrK 0 a fun a=>loadK b a fun a=>mQ (s139_0 b k d) (lenSl a)))
def s139(_:Nat):Hand:=fun _ _ a b c d=>arg1 a fun a e=>arg1 e fun e f=>arg0 f (boxE e b c fun b e=>forceN (Nat.succ c) fun c=>forceN (Nat.add c 1) fun f=>nilK a (faddrK 0 a fun g=>faddrK 0 g fun g=>loadK e g fun g=>loadNK 6 e b fun b=>forceN (Nat.add c 0) fun c=>Ev.layK 0 6 true b [.str 0 0,.nils,.str 0 0,I 0,.nils,.nils] fun b=>newK b e c fun b=>at_ b c fun b=>hput e c b fun b=>mR (s139_1 d a) (appK 6 b f g (.sl c 0 1 (.known 1)))))
theorem h139:HO 139 s139:=hO 2 (T2 L0 (T2 L0 (T2 L0 L0))) Tryz.func139 Tryz.call139 fun N F G l H n k=>by kernel_rfl
def s140_0:KQ:=fun d=>nilK a (faddrK 4 a fun e=>storeK 1 H e d fun _ d=>AV.ckOne c (newK [c] d n fun c=>forceN (Nat.succ n) fun d=>AV.ckOne (.str 5 465490374508) (AV.ckOne b (AV.ckOne (.sl n 0 1 (.known 1)) (F 139 [a,.agg [.str 5 465490374508,b,.str 0 0,I 0,.sl n 0 1 (.known 1),.nils]] c d k)))))
def s140_1:KJ:=fun e f g=>arg1 e fun e _=>faddrK 3 d fun h=>loadK f h fun h=>iaddrK 4 h c fun c=>loadNK 4 f c fun c=>F 52 [a,c] f g fun c f g=>faddrK 0 d fun d=>loadK f d fun d=>strB .eql d (.str 3 7628140) fun d=>cB d false (nilK a (faddrK 4 a fun d=>loadK f d fun d=>mQ (s140_0 F f k g a e c) (sliceK 1 d none (some b))))
def s140_2:KJ:=fun b c d=>arg1 b fun b _=>addI a (I 1) fun a=>j [b,a] c d
def s140_3:KJ→KJ:=fun d e f g=>arg1 e fun e h=>arg1 h fun h _=>lssI h b fun b=>cB b (mJ (s140_2 d h) fun b=>faddrK 3 c fun c=>loadK f c fun c=>iaddrK 4 c h fun c=>faddrK 1 c fun c=>loadK f c fun c=>F 51 [a,c] f g fun a c d=>AV.ckOne a (newK [a] c d fun a=>forceN (Nat.succ d) fun c=>mR (fun a c d=>b [a] c d) (appK 1 a c e (.sl d 0 1 (.known 1))))) (j [e] f g)
def s140_4:KQ:=fun d=>subI d (I 1) fun d=>faddrK 0 c fun e=>loadK H e fun e=>strB .eql e (.str 3 7628140) fun e=>cB e false (mJ (s140_1 F k a b d c) fun b=>iterN n (s140_3 F b a d c) [.nils,I 0] H m)
def s140_5:KQ:=fun c=>faddrK 3 b fun d=>loadK H d fun d=>mQ (s140_4 F H k n m a c b) (lenSl d)
def s140(a:Nat):Hand:=fun b _ c d e f=>arg1 c fun c g=>arg1 g fun g h=>arg1 h fun _ h=>arg0 h (boxE g d e fun d g=>forceN (Nat.succ e) fun e=>nilK c (faddrK 4 c fun h=>loadK g h fun h=>mQ (s140_5 b g f a e c d) (lenSl h)))
theorem h140:HO 140 s140:=hO 3 (T2 L0 (T2 L0 (T2 L0 (T2 (T2 L0 (T2 .stop L0)) (T2 L0 (T2 (T2 L0 (.one [9] (.one [9,10] (T2 (T2 L0 (T2 L0 L0)) (T2 (.one [9] (T2 L0 L0)) L0))))) (T2 L0 (T2 (T2 L0 (T2 .stop L0)) (T2 L0 (T2 L0 L0)))))))))) Tryz.func140 Tryz.call140 fun N F G l H n k=>by kernel_rfl
def s141(_:Nat):Hand:=fun a _ b c d e=>arg1 b fun b f=>arg1 f fun f g=>arg1 g fun g h=>arg0 h (boxE f c d fun c f=>forceN (Nat.succ d) fun d=>boxE g f d fun f g=>forceN (Nat.succ d) fun d=>faddrK 0 c fun h=>loadK g h fun h=>strB .eql h (.str 3 7496054) fun h=>cB h (faddrK 1 c fun c=>loadK g c fun c=>a 142 [b,c] g d fun c d g=>loadNK 4 d f fun f=>a 234 [b,f,c] d g e) false)
theorem h141:HO 141 s141:=hO 3 (T2 L0 (T2 (T2 L0 (T2 (T2 L0 (T2 L0 L0)) .stop)) .stop)) Tryz.func141 Tryz.call141 fun N F G l H n k=>by kernel_rfl
def s142_0:KJ:=fun _ b c=>subI a (I 1) fun a=>j [a] b c
def s142_1:KJ→KJ:=fun c d e f=>arg1 d fun d _=>geqI d (I 0) fun g=>cB g (mJ (s142_0 c d) fun c=>nilK a (faddrK 0 a fun g=>faddrK 1 g fun g=>loadK e g fun g=>nilK a (faddrK 4 a fun h=>loadK e h fun h=>iaddrK 1 h d fun h=>loadK e h fun h=>iaddrK 1 g h fun g=>loadK e g fun g=>strB .eql g b fun b=>cB b (nilK a (faddrK 4 a fun a=>loadK e a fun a=>iaddrK 1 a d fun a=>loadK e a fun a=>k a e f)) (c [] e f)))) false
def s142_2:KQ:=fun c=>subI c (I 1) fun c=>mJ (fun _ _ _=>false) fun _=>iterN n (s142_1 k a b) [c] H m
def s142(a:Nat):Hand:=fun _ _ b c d e=>arg1 b fun b f=>arg1 f fun f g=>arg0 g (nilK b (faddrK 4 b fun g=>loadK c g fun g=>mQ (s142_2 c e a d b f) (lenSl g)))
theorem h142:HO 142 s142:=hO 2 (T2 L0 (T2 (T2 L0 (.one [] (.one [5] (T2 (T2 L0 (T2 L0 .stop)) (T2 (.one [] (T2 L0 (T2 (T2 L0 L0) L0))) L0))))) .stop)) Tryz.func142 Tryz.call142 fun N F G l H n k=>by kernel_rfl
def s143_0:KQ:=fun d=>nilK a (faddrK 4 a fun e=>storeK 1 H e d fun _ d=>AV.ckOne c (newK [c] d n fun c=>forceN (Nat.succ n) fun d=>AV.ckOne (.str 4 1668248176) (AV.ckOne b (AV.ckOne (.sl n 0 1 (.known 1)) (F 139 [a,.agg [.str 4 1668248176,b,.str 0 0,I 0,.sl n 0 1 (.known 1),.nils]] c d k)))))
def s143_1:KJ:=fun c d e=>arg1 c fun c f=>arg1 f fun f _=>nilK a (faddrK 4 a fun g=>loadK d g fun g=>mQ (s143_0 F d k e a c f) (sliceK 1 g none (some b)))
def s143_2:KQ:=fun f=>subI f (I 1) fun f=>iaddrK 4 d f fun d=>loadNK 4 H d fun d=>newK [.str 0 0,.str 0 0,I 0,.nils] H n fun f=>forceN (Nat.succ n) fun g=>storeK 4 f (.ptr n 0) d fun _ d=>faddrK 0 e fun e=>loadK d e fun e=>mJ (s143_1 F k a b) fun b=>strB .eql e (.str 2 29296) fun f=>cB f false (strB .eql e (.str 4 1668248176) fun e=>cB e (loadNK 4 d (.ptr n 0) fun e=>F 52 [a,e] d g fun a d e=>b [c,a] d e) false)
def s143_3:KJ:=fun d e f=>arg1 d fun d _=>faddrK 3 c fun g=>loadK e g fun g=>faddrK 3 c fun h=>loadK e h fun h=>mQ (s143_2 F e k f a b d g c) (lenSl h)
def s143_4:KJ:=fun b c d=>arg1 b fun b _=>addI a (I 1) fun a=>j [b,a] c d
def s143_5:KQ:=fun e=>subI e (I 1) fun e=>lssI d e fun e=>cB e (mJ (s143_4 J d) fun e=>faddrK 3 b fun b=>loadK H b fun b=>iaddrK 4 b d fun b=>faddrK 1 b fun b=>loadK H b fun b=>F 51 [a,b] H n fun a b d=>AV.ckOne a (newK [a] b d fun a=>forceN (Nat.succ d) fun b=>mR (fun a b c=>e [a] b c) (appK 1 a b c (.sl d 0 1 (.known 1))))) (j [c] H n)
def s143_6:KJ→KJ:=fun c d e f=>arg1 d fun d g=>arg1 g fun g _=>faddrK 3 b fun h=>loadK e h fun h=>mQ (s143_5 F j c e f a b d g) (lenSl h)
def s143_7:KQ:=fun d=>AV.ckOne b (newK [b] H m fun b=>forceN (Nat.succ m) fun e=>mJ (s143_3 F k a d c) fun d=>iterN n (s143_6 F d a c) [.sl m 0 1 (.known 1),I 0] b e)
def s143(a:Nat):Hand:=fun b _ c d e f=>arg1 c fun c g=>arg1 g fun g h=>arg1 h fun h i=>arg0 i (boxE g d e fun d g=>forceN (Nat.succ e) fun e=>nilK c (faddrK 4 c fun i=>loadK g i fun i=>mQ (s143_7 b g f a e c h d) (lenSl i)))
theorem h143:HO 143 s143:=hO 3 (T2 L0 (T2 L0 (T2 L0 (T2 (T2 L0 (.one [8] (.one [8,9] (T2 (T2 L0 (T2 L0 L0)) (T2 (.one [8] (T2 L0 L0)) L0))))) (T2 L0 (T2 L0 (T2 (T2 L0 (.one [8,12] (T2 (T2 L0 (T2 .stop L0)) (T2 L0 .stop)))) (T2 L0 (T2 L0 L0))))))))) Tryz.func143 Tryz.call143 fun N F G l H n k=>by kernel_rfl
def s144_0:KJ:=fun a b c=>arg1 a fun a d=>arg1 d fun d _=>AV.ckOk a (AV.ckOk d (k (.tup [a,d]) b c))
def s144_1:KJ:=fun b c d=>arg1 b fun b e=>arg1 e fun e _=>addI a (I 1) fun a=>j [b,e,a] c d
def s144_2:KR:=fun b c d=>j [b,a] c d
def s144_3:KR:=fun b c d=>j [a,b] c d
def s144_4:KR:=fun e f g=>iaddrK 4 b c fun b=>loadNK 4 f b fun b=>Ev.layK 0 4 true b [.str 0 0,.str 0 0,I 0,.nils,I 0] fun b=>Ev.layK 4 1 false d b fun b=>Ev.layK 0 5 true (.agg b) [.str 0 0,.str 0 0,I 0,.nils,I 0] fun b=>newK b f g fun b=>forceN (Nat.succ g) fun c=>mR (s144_3 j e) (appK 5 b c a (.sl g 0 1 (.known 1)))
def s144_5:KQ:=fun f=>lssI e f fun f=>cB f (mJ (s144_1 J e) fun f=>iaddrK 4 d e fun g=>faddrK 0 g fun g=>loadK H g fun g=>strB .eql g (.str 3 7496054) fun g=>cB g (iaddrK 4 d e fun d=>faddrK 1 d fun d=>loadK H d fun d=>F 142 [a,d] H n fun a d e=>AV.ckOne a (newK [a] d e fun a=>forceN (Nat.succ e) fun d=>mR (s144_2 f c) (appK 1 a d b (.sl e 0 1 (.known 1))))) (F 51 [a,.str 0 0] H n fun a g h=>AV.ckOne a (newK [a] g h fun g=>forceN (Nat.succ h) fun i=>mR (s144_4 f c d e a) (appK 1 g i b (.sl h 0 1 (.known 1)))))) (j [b,c] H n)
def s144_6:KJ→KJ:=fun c d e f=>arg1 d fun d g=>arg1 g fun g h=>arg1 h fun h _=>mQ (s144_5 F j c e f a d g b h) (lenSl b)
def s144(a:Nat):Hand:=fun b _ c d e f=>arg1 c fun c g=>arg1 g fun g h=>arg0 h (mJ (s144_0 f) fun f=>iterN a (s144_6 b f c g) [.nils,.nils,I 0] d e)
theorem h144:HO 144 s144:=hO 2 (T2 L0 (T2 L0 (T2 L0 (T2 (T2 L0 (.one [6,7] (.one [6,7,8] (T2 (T2 L0 (T2 L0 L0)) (T2 (.one [6,7] (T2 (T2 L0 (T2 (T2 L0 (T2 L0 L0)) L0)) (T2 L0 (T2 L0 L0)))) L0))))) (T2 L0 L0))))) Tryz.func144 Tryz.call144 fun N F G l H n k=>by kernel_rfl
def s145_0:KJ:=fun a b c=>arg1 a fun a _=>k a b c
def s145_1:KJ:=fun b c d=>arg1 b fun b _=>addI a (I 1) fun a=>j [b,a] c d
def s145_2:KQ:=fun e=>lssI c e fun e=>cB e (mJ (s145_1 j c) fun e=>iaddrK 5 d c fun f=>faddrK 0 f fun f=>loadNK 4 H f fun f=>iaddrK 5 d c fun c=>faddrK 4 c fun c=>loadK H c fun c=>F 234 [a,f,c] H n fun a c d=>AV.ckOne a (newK [a] c d fun a=>forceN (Nat.succ d) fun c=>mR (fun a b c=>e [a] b c) (appK 1 a c b (.sl d 0 1 (.known 1))))) (J [b] H n)
def s145_3:KJ→KJ:=fun c d e f=>arg1 d fun d g=>arg1 g fun g _=>mQ (s145_2 F c j e f a d g b) (lenSl b)
def s145(a:Nat):Hand:=fun b _ c d e f=>arg1 c fun c g=>arg1 g fun g h=>arg0 h (mJ (s145_0 f) fun f=>iterN a (s145_3 b f c g) [.nils,I 0] d e)
theorem h145:HO 145 s145:=hO 2 (T2 L0 (T2 L0 (T2 (T2 L0 (.one [5] (.one [5,6] (T2 (T2 L0 (T2 L0 L0)) (T2 (.one [5] (T2 L0 L0)) L0))))) (T2 L0 L0)))) Tryz.func145 Tryz.call145 fun N F G l H n k=>by kernel_rfl
def s147_0:KJ:=fun c d e=>arg1 c fun c _=>AV.ckOne b (newK [b] d e fun b=>forceN (Nat.succ e) fun d=>AV.ckOne (.str 5 465490374508) (AV.ckOne c (AV.ckOne (.sl e 0 1 (.known 1)) (F 139 [a,.agg [.str 5 465490374508,c,.str 0 0,I 0,.sl e 0 1 (.known 1),.nils]] b d k))))
def s147_1:KJ:=fun b c d=>arg1 b fun b _=>addI a (I 1) fun a=>j [b,a] c d
def s147_2:KQ:=fun d=>lssI c d fun d=>cB d (mJ (s147_1 J c) fun d=>iaddrK 5 a c fun a=>faddrK 4 a fun a=>loadK H a fun a=>AV.ckOne a (newK [a] H n fun a=>forceN (Nat.succ n) fun c=>mR (fun a b c=>d [a] b c) (appK 1 a c b (.sl n 0 1 (.known 1))))) (j [b] H n)
def s147_3:KJ→KJ:=fun b c d e=>arg1 c fun c f=>arg1 f fun f _=>mQ (s147_2 j b d e a c f) (lenSl a)
def s147_4:KR:=fun c d e=>AV.ckOne (.str 3 7431539) (AV.ckOne c (F 139 [a,.agg [.str 3 7431539,.nils,.str 0 0,I 0,c,.nils]] d e fun c d e=>mJ (s147_0 F k a c) fun a=>iterN n (s147_3 a b) [.nils,I 0] d e))
def s147_5:KQ:=fun e=>eqlI e (I 0) fun e=>cB e (k d H m) (AV.ckOne d (newK [d] H m fun d=>forceN (Nat.succ m) fun e=>mR (s147_4 F k n a b) (appK 1 d e c (.sl m 0 1 (.known 1)))))
def s147(a:Nat):Hand:=fun b _ c d e f=>arg1 c fun c g=>arg1 g fun g h=>arg1 h fun h i=>arg1 i fun i j=>arg0 j (mQ (s147_5 b d f a e c g h i) (lenSl g))
theorem h147:HO 147 s147:=hO 4 (T2 L0 (T2 (T2 L0 (T2 (T2 L0 L0) L0)) (T2 L0 (T2 L0 (T2 (T2 L0 (.one [10] (.one [10,11] (T2 (T2 L0 (T2 L0 L0)) (T2 (.one [10] L0) L0))))) (T2 L0 L0)))))) Tryz.func147 Tryz.call147 fun N F G l H n k=>by kernel_rfl
def s148_0:KJ:=fun b c d=>arg1 b fun b _=>cB b (faddrK 1 a fun a=>loadK c a fun a=>mQ (fun a=>k a c d) (sliceK 1 a (some (I 1)) none)) (j [] c d)
def s148_1:KJ:=fun c d e=>arg1 c fun c _=>cB c (faddrK 1 a fun a=>loadK d a fun a=>k a d e) (mJ (s148_0 j k a) fun a=>strB .eql b (.str 4 1668248176) fun c=>cB c (a [c] d e) (strB .eql b (.str 9 1870935025940931240291) fun b=>a [b] d e))
def s148(_:Nat):Hand:=fun _ _ a b c d=>arg1 a fun a e=>arg0 e (boxE a b c fun a b=>forceN (Nat.succ c) fun c=>faddrK 0 a fun e=>loadK b e fun e=>mJ (fun _ a b=>d .nils a b) fun f=>mJ (s148_1 f d a e) fun a=>strB .eql e (.str 5 465490374508) fun d=>cB d (a [d] b c) (strB .eql e (.str 3 7959156) fun d=>a [d] b c))
theorem h148:HO 148 s148:=hO 1 (T2 L0 (T2 (T2 L0 (.one [] (.join [5] (T2 L0 (T2 L0 L0)) (T2 (T2 L0 L0) (.join [10] (T2 L0 (T2 L0 L0)) (T2 (T2 L0 L0) L0)))))) (T2 L0 L0))) Tryz.func148 Tryz.call148 fun N F G l H n k=>by kernel_rfl
def s149_0:KJ:=fun _ b c=>faddrK 1 a fun a=>loadK b a fun a=>k a b c
def s149_1:KJ:=fun b c d=>arg1 b fun b _=>cB b (faddrK 1 a fun a=>loadK c a fun a=>mQ (fun a=>k a c d) (sliceK 1 a none (some (I 1)))) (j [] c d)
def s149_2:KJ:=fun c d e=>arg1 c fun c _=>cB c (k .nils d e) (mJ (s149_1 j k a) fun a=>strB .eql b (.str 4 1668248176) fun c=>cB c (a [c] d e) (strB .eql b (.str 9 1870935025940931240291) fun b=>a [b] d e))
def s149(_:Nat):Hand:=fun _ _ a b c d=>arg1 a fun a e=>arg0 e (boxE a b c fun a b=>forceN (Nat.succ c) fun c=>faddrK 0 a fun e=>loadK b e fun e=>mJ (s149_0 d a) fun f=>mJ (s149_2 f d a e) fun a=>strB .eql e (.str 5 465490374508) fun d=>cB d (a [d] b c) (strB .eql e (.str 3 7959156) fun d=>a [d] b c))
theorem h149:HO 149 s149:=hO 1 (T2 L0 (T2 (T2 L0 (.one [] (.join [5] (T2 L0 (T2 L0 L0)) (T2 (T2 L0 L0) (.join [8] (T2 L0 (T2 L0 L0)) (T2 (T2 L0 L0) L0)))))) (T2 L0 L0))) Tryz.func149 Tryz.call149 fun N F G l H n k=>by kernel_rfl
def s150(_:Nat):Hand:=fun _ _ a b c d=>arg1 a fun a e=>arg0 e (lssI a (I 10) fun e=>cB e (addI a (I 1) fun e=>mQ (fun a=>d a b c) (sliceStrK (.str 36 237927390410950444456928663707796224754864904193074819559483181009558347043374296609072) (some a) (some e))) (mulI a (I 2) fun e=>mulI a (I 2) fun a=>addI a (I 2) fun a=>mQ (fun a=>d a b c) (sliceStrK (.str 200 9938655150514779720929161263213647789093395803754561035662628441001274968862597953692946393464194303251501229616933063375291039650253924995779037586872666250072396106842829501851083234932712366962979930255066872747696324303968523733872590022915936937156789320557469720923390131174387415513794469201054844961267015441141542819553679203788501627738430154234325528792480477051962324423099068299719245009424585859096469223093538032153047611602695245052081125123941502624659711709950000) (some e) (some a))))
theorem h150:HO 150 s150:=hO 1 (T2 L0 (T2 (T2 L0 (T2 (T2 L0 L0) L0)) (T2 L0 L0))) Tryz.func150 Tryz.call150 fun N F G l H n k=>by kernel_rfl
def s151(_:Nat):Hand:=fun a _ b c d e=>arg1 b fun b f=>arg0 f (a 237 [b] c d fun c d f=>a 236 [c] d f fun c d f=>iaddrAK 20 1 (.ptr 1 0) c fun g=>loadK d g fun g=>geqI b g fun b=>a 238 [b] d f fun a b d=>addI c a fun a=>e a b d)
theorem h151:HO 151 s151:=hO 1 (T2 L0 (T2 L0 (T2 L0 L0))) Tryz.func151 Tryz.call151 fun N F G l H n k=>by kernel_rfl
def s152_0:KJ:=fun b c d=>arg1 b fun b e=>arg1 e fun e _=>convI .u32 b fun b=>geqI e (I 4) fun f=>cB f false (geqI e (I 2) fun f=>cB f (remI b (.int .u32 (.ofNat 100)) fun f=>mulI f (.int .u32 (.ofNat 2)) fun f=>quoI b (.int .u32 (.ofNat 100)) fun b=>subI e (I 1) fun g=>subI e (I 2) fun h=>addI f (.int .u32 (.ofNat 1)) fun i=>indexStrK (.str 200 9938655150514779720929161263213647789093395803754561035662628441001274968862597953692946393464194303251501229616933063375291039650253924995779037586872666250072396106842829501851083234932712366962979930255066872747696324303968523733872590022915936937156789320557469720923390131174387415513794469201054844961267015441141542819553679203788501627738430154234325528792480477051962324423099068299719245009424585859096469223093538032153047611602695245052081125123941502624659711709950000) i fun i=>indexStrK (.str 200 9938655150514779720929161263213647789093395803754561035662628441001274968862597953692946393464194303251501229616933063375291039650253924995779037586872666250072396106842829501851083234932712366962979930255066872747696324303968523733872590022915936937156789320557469720923390131174387415513794469201054844961267015441141542819553679203788501627738430154234325528792480477051962324423099068299719245009424585859096469223093538032153047611602695245052081125123941502624659711709950000) f fun f=>iaddrK 1 a g fun g=>storeK 1 c g i fun _ c=>iaddrK 1 a h fun g=>storeK 1 c g f fun _ c=>subI e (I 2) fun e=>gtrI e (I 0) fun e=>cB e (addI (.int .u32 (.ofNat 48)) b fun b=>convI .u8 b fun b=>iaddrK 1 a (I 0) fun a=>storeK 1 c a b fun _ a=>k (.tup []) a d) false) false)
def s152_1:KJ→KJ:=fun _ a b c=>arg1 a fun a d=>arg1 d fun d _=>geqI d (I 8) fun e=>cB e false (j [a,d] b c)
def s152_2:KQ:=fun c=>mJ (s152_0 k a) fun a=>iterN n (s152_1 a) [b,c] H m
def s152(a:Nat):Hand:=fun _ _ b c d e=>arg1 b fun b f=>arg1 f fun f g=>arg0 g (mQ (s152_2 c e a d b f) (lenSl b))
theorem h152:HO 152 s152:=hO 2 (T2 L0 (T2 (.one [1,4] (.one [1,4] (T2 (T2 L0 (T2 .stop L0)) .stop))) (T2 L0 (T2 (T2 L0 (T2 .stop L0)) (T2 (T2 L0 (T2 (T2 L0 (T2 L0 (T2 L0 L0))) .stop)) (T2 L0 (T2 L0 .stop))))))) Tryz.func152 Tryz.call152 fun N F G l H n k=>by kernel_rfl
def s154(_:Nat):Hand:=fun a _ b c d e=>arg0 b (a 161 [.str 61 322933356580715612705732818162533557844991618235070760437789565883355677279338172721880961121734908764298509443823882919091055229312664158687813975] c d e)
theorem h154:HO 154 s154:=hO 0 (T2 L0 (T2 L0 L0)) Tryz.func154 Tryz.call154 fun N F G l H n k=>by kernel_rfl
def s155_0:KJ:=fun _ b c=>addI a (I 1) fun a=>j [a] b c
def s155_1:KJ→KJ:=fun d e f g=>arg1 e fun e _=>lssI e c fun c=>cB c (mJ (s155_0 d e) fun c=>iaddrK 1 a e fun a=>loadK f a fun a=>iaddrK 1 b e fun b=>loadK f b fun b=>strB .neq a b fun a=>cB a false (c [] f g)) (j [] f g)
def s155_2:KQ:=fun c=>mJ (fun _ a b=>k fT a b) fun d=>iterN n (s155_1 d a b c) [I 0] H m
def s155_3:KQ:=fun d=>neqI c d fun c=>cB c false (mQ (s155_2 H k n m a b) (lenSl a))
def s155_4:KQ:=fun c=>mQ (s155_3 H k n m a b c) (lenSl b)
def s155(a:Nat):Hand:=fun _ _ b c d e=>arg1 b fun b f=>arg1 f fun f g=>arg0 g (mQ (s155_4 c e a d b f) (lenSl b))
theorem h155:HO 155 s155:=hO 2 (T2 L0 (T2 (T2 L0 (T2 .stop L0)) (T2 (T2 L0 (.one [] (.one [13] (T2 L0 (T2 (T2 L0 L0) (T2 (.one [] (T2 L0 (T2 L0 (T2 .stop L0)))) L0)))))) (T2 L0 L0)))) Tryz.func155 Tryz.call155 fun N F G l H n k=>by kernel_rfl
def s156_0:KJ:=fun _ b c=>addI a (I 1) fun a=>j [a] b c
def s156_1:KJ→KJ:=fun c d e f=>arg1 d fun d _=>lssI d b fun b=>cB b (mJ (s156_0 c d) fun b=>indexStrK a d fun a=>F 241 [a] e f fun a c d=>notB a fun a=>cB a false (b [] c d)) (j [] e f)
def s156_2:KQ:=fun b=>mJ (fun _ a b=>k fT a b) fun c=>iterN n (s156_1 F c a b) [I 0] H m
def s156_3:KR:=fun c d e=>pickK b fT c fun b=>cB b (k fF d e) (mQ (s156_2 F d k n e a) (lenStr a))
def s156_4:KR:=fun d e f=>jRn b e f (s156_3 F k n a b) fun a=>gtrI c d fun b=>a b e f
def s156_5:KR:=fun d e f=>jRn b e f (s156_4 F k n a b d) fun a=>a c e f
def s156_6:KR:=fun d e f=>jRn b e f (s156_5 F k n a b c) fun a=>indexStrK d (I 0) fun b=>a b e f
def s156_7:KR:=fun d e f=>pickK b fT d fun b=>jRn b e f (s156_6 F k n a b c) fun b=>b a e f
def s156_8:KR:=fun e f g=>jRn b f g (s156_7 F k n a b d) fun a=>lssI c e fun b=>a b f g
def s156_9:KR:=fun e f g=>jRn c f g (s156_8 F k n a c e d) fun a=>a b f g
def s156_10:KR:=fun e f g=>jRn c f g (s156_9 F k n a b c d) fun a=>indexStrK e (I 0) fun b=>a b f g
def s156_11:KR:=fun e f g=>pickK d fT e fun d=>jRn d f g (s156_10 F k n a b d c) fun b=>b a f g
def s156_12:KR:=fun e f g=>jRn d f g (s156_11 F k n a b c d) fun a=>gtrI e (I 16) fun b=>a b f g
def s156_13:KR:=fun e f g=>jRn d f g (s156_12 F k n a b c d) fun a=>mQ (fun b=>a b f g) (lenStr e)
def s156_14:KQ:=fun d=>lssI d (I 1) fun d=>jRn d H m (s156_13 F k n a b c d) fun b=>b a H m
def s156(a:Nat):Hand:=fun b _ c d e f=>arg1 c fun c g=>arg1 g fun g h=>arg1 h fun h i=>arg0 i (mQ (s156_14 b d f a e c g h) (lenStr c))
theorem h156:HO 156 s156:=hO 3 (T2 L0 (T2 (T2 L0 (T2 (T2 L0 L0) L0)) (T2 (T2 L0 (.one [] (.one [30] (T2 L0 (T2 (T2 L0 L0) (T2 (.one [] (T2 L0 (T2 L0 (T2 .stop L0)))) L0)))))) (T2 L0 L0)))) Tryz.func156 Tryz.call156 fun N F G l H n k=>by kernel_rfl
def s157(_:Nat):Hand:=fun a _ b c d e=>arg1 b fun b f=>arg1 f fun f g=>arg0 g (a 242 [b,f] c d fun a b c=>geqI a (I 0) fun a=>e a b c)
theorem h157:HO 157 s157:=hO 2 (T2 L0 (T2 L0 L0)) Tryz.func157 Tryz.call157 fun N F G l H n k=>by kernel_rfl
def s158_0:KJ:=fun b c d=>arg1 b fun b _=>cB b (AV.ckOne (I 2) (AV.ckOne (.int .i64 (.negSucc 0)) (storeK 6 c (.ptr n 0) (.agg [I 0,I 0,I 2,.int .i64 (.negSucc 0),.str 0 0,.bool false]) fun _ a=>loadNK 6 a (.ptr n 0) fun b=>AV.ckOk b (AV.ckOk fT (k (.tup [b,.bool true]) a d))))) (strB .eql a (.str 5 465490374508) fun b=>cB b (AV.ckOne (I 1) (AV.ckOne (.int .i64 (.negSucc 0)) (AV.ckOne (I 1) (AV.ckOne (I 1) (storeK 6 c (.ptr n 0) (.agg [I 1,.int .i64 (.negSucc 0),I 1,I 1,.str 0 0,.bool false]) fun _ a=>loadNK 6 a (.ptr n 0) fun b=>AV.ckOk b (AV.ckOk fT (k (.tup [b,.bool true]) a d))))))) (strB .eql a (.str 4 1684957538) fun b=>cB b (AV.ckOne (I 2) (AV.ckOne (I 2) (storeK 6 c (.ptr n 0) (.agg [I 2,I 2,I 0,I 0,.str 0 0,.bool false]) fun _ a=>loadNK 6 a (.ptr n 0) fun b=>AV.ckOk b (AV.ckOk fT (k (.tup [b,.bool true]) a d))))) (strB .eql a (.str 3 7630441) fun b=>cB b (AV.ckOne (I 1) (AV.ckOne (I 1) (AV.ckOne fT (storeK 6 c (.ptr n 0) (.agg [I 1,I 1,I 0,I 0,.str 0 0,.bool true]) fun _ a=>loadNK 6 a (.ptr n 0) fun b=>AV.ckOk b (AV.ckOk fT (k (.tup [b,.bool true]) a d)))))) (strB .eql a (.str 4 1836020833) fun b=>cB b false (strB .eql a (.str 5 435611006324) fun b=>cB b (AV.ckOne (I 2) (AV.ckOne (I 9) (AV.ckOne (.str 4 1836020833) (storeK 6 c (.ptr n 0) (.agg [I 2,I 9,I 0,I 0,.str 4 1836020833,.bool false]) fun _ a=>loadNK 6 a (.ptr n 0) fun b=>AV.ckOk b (AV.ckOk fT (k (.tup [b,.bool true]) a d)))))) (strB .eql a (.str 4 1668248176) fun b=>cB b (AV.ckOne (I 1) (AV.ckOne (.int .i64 (.negSucc 0)) (AV.ckOne (I 1) (AV.ckOne (I 1) (storeK 6 c (.ptr n 0) (.agg [I 1,.int .i64 (.negSucc 0),I 1,I 1,.str 0 0,.bool false]) fun _ a=>loadNK 6 a (.ptr n 0) fun b=>AV.ckOk b (AV.ckOk fT (k (.tup [b,.bool true]) a d))))))) (strB .eql a (.str 2 26217) fun b=>cB b (AV.ckOne (I 1) (AV.ckOne (I 1) (AV.ckOne (I 2) (AV.ckOne (I 2) (storeK 6 c (.ptr n 0) (.agg [I 1,I 1,I 2,I 2,.str 0 0,.bool false]) fun _ a=>loadNK 6 a (.ptr n 0) fun b=>AV.ckOk b (AV.ckOk fT (k (.tup [b,.bool true]) a d))))))) (strB .eql a (.str 7 32772496251117923) fun b=>cB b false (strB .eql a (.str 8 7885649434211737955) fun b=>cB b false (strB .eql a (.str 9 1870935025940931240291) fun b=>cB b false (strB .eql a (.str 5 521510350945) fun b=>cB b (AV.ckOne (I 1) (AV.ckOne (.int .i64 (.negSucc 0)) (storeK 6 c (.ptr n 0) (.agg [I 1,.int .i64 (.negSucc 0),I 0,I 0,.str 0 0,.bool false]) fun _ a=>loadNK 6 a (.ptr n 0) fun b=>AV.ckOk b (AV.ckOk fT (k (.tup [b,.bool true]) a d))))) (strB .eql a (.str 6 110369476601972) fun b=>cB b (AV.ckOne (I 1) (AV.ckOne (I 1) (storeK 6 c (.ptr n 0) (.agg [I 0,I 0,I 1,I 1,.str 0 0,.bool false]) fun _ a=>loadNK 6 a (.ptr n 0) fun b=>AV.ckOk b (AV.ckOk fT (k (.tup [b,.bool true]) a d))))) (strB .eql a (.str 4 1684366702) fun b=>cB b false (strB .eql a (.str 3 7959156) fun b=>cB b false (strB .eql a (.str 5 435727982962) fun b=>cB b false (strB .eql a (.str 2 28783) fun a=>cB a (AV.ckOne (I 3) (AV.ckOne (I 3) (AV.ckOne (.str 2 28783) (storeK 6 c (.ptr n 0) (.agg [I 3,I 3,I 0,I 0,.str 2 28783,.bool false]) fun _ a=>loadNK 6 a (.ptr n 0) fun b=>AV.ckOk b (AV.ckOk fT (k (.tup [b,.bool true]) a d)))))) false))))))))))))))))
def s158(_:Nat):Hand:=fun _ _ a b c d=>arg1 a fun a e=>arg0 e (newK [I 0,I 0,I 0,I 0,.str 0 0,.bool false] b c fun b=>forceN (Nat.succ c) fun e=>mJ (fun _ _ _=>false) fun _=>strB .eql a (.str 4 1885956979) fun f=>cB f false (mJ (s158_0 d c a) fun c=>strB .eql a (.str 3 7431539) fun d=>cB d (c [d] b e) (strB .eql a (.str 6 111546465216611) fun a=>c [a] b e)))
theorem h158:HO 158 s158:=hO 1 (T2 L0 (T2 (T2 L0 (.one [] (T2 L0 (T2 .stop (.join [8] (T2 L0 (T2 L0 L0)) (T2 (T2 L0 L0) (T2 L0 (T2 (T2 L0 L0) (T2 L0 (T2 (T2 L0 L0) (T2 L0 (T2 (T2 L0 L0) (T2 L0 (T2 .stop (T2 L0 (T2 (T2 L0 L0) (T2 L0 (T2 (T2 L0 L0) (T2 L0 (T2 (T2 L0 L0) (T2 L0 (T2 .stop (T2 L0 (T2 .stop (T2 L0 (T2 .stop (T2 L0 (T2 (T2 L0 L0) (T2 L0 (T2 (T2 L0 L0) (T2 L0 (T2 .stop (T2 L0 (T2 .stop (T2 L0 (T2 .stop (T2 L0 (T2 (T2 L0 L0) .stop)))))))))))))))))))))))))))))))))))))) .stop)) Tryz.func158 Tryz.call158 fun N F G l H n k=>by kernel_rfl
def s159_0:KR:=fun b c d=>pickK a b fF fun a=>k a c d
def s159_1:KR:=fun c d e=>jR b d e (s159_0 k b) fun b=>pickK a fT c fun a=>b a d e
def s159_2:KR:=fun d e f=>jRn a e f (s159_1 k a c) fun a=>leqI b d fun b=>a b e f
def s159_3:KR:=fun d e f=>jRn a e f (s159_2 k a d c) fun a=>a b e f
def s159_4:KR:=fun d e f=>jRn d e f (s159_3 k d b c) fun b=>b a e f
def s159_5:KR:=fun d e f=>jR c e f (s159_4 k a b c) fun a=>a d e f
def s159_6:KR:=fun d e f=>jR c e f (s159_5 k a b c) fun a=>lssI d (I 0) fun b=>a b e f
def s159(_:Nat):Hand:=fun _ _ a b c d=>arg1 a fun a e=>arg1 e fun e f=>arg1 f fun f g=>arg0 g (geqI a e fun e=>jR e b c (s159_6 d a f e) fun a=>a f b c)
theorem h159:HO 159 s159:=hO 3 (T2 L0 (T2 L0 L0)) Tryz.func159 Tryz.call159 fun N F G l H n k=>by kernel_rfl
def s160_0:KR:=fun b c d=>pickK a fT b fun a=>k a c d
def s160_1:KR:=fun b c d=>jRn a c d (s160_0 k a) (F 156 [b,.int .u8 (.ofNat 97),.int .u8 (.ofNat 122)] c d)
def s160_2:KR:=fun c d e=>pickK b fT c fun b=>jRn b d e (s160_1 F k b) fun b=>b a d e
def s160_3:KR:=fun c d e=>jRn b d e (s160_2 F k a b) fun a=>strB .eql c (.str 1 35) fun b=>a b d e
def s160(_:Nat):Hand:=fun a _ b c d e=>arg1 b fun b f=>arg0 f (strB .eql b (.str 1 124) fun f=>jRn f c d (s160_3 a e b f) fun a=>a b c d)
theorem h160:HO 160 s160:=hO 1 (T2 L0 (T2 L0 L0)) Tryz.func160 Tryz.call160 fun N F G l H n k=>by kernel_rfl
def s161_0:KQ:=fun c=>iaddrK 1 a b fun b=>storeK 1 H b c fun _ b=>k a b n
def s161_1:KQ:=fun e=>lssI d e fun e=>cB e (mQ (s161_0 H k n b c) (sliceStrK a (some d) none)) false
def s161_2:KJ:=fun c d e=>arg1 c fun c f=>arg1 f fun f _=>mQ (s161_1 d k e a b c f) (lenStr a)
def s161_3:KJ:=fun a b c=>arg1 a fun a d=>arg1 d fun d e=>arg1 e fun e f=>arg1 f fun f g=>arg1 g fun g h=>arg1 h fun h i=>arg1 i fun i l=>arg1 l fun l m=>arg1 m fun m _=>j [a,d,e,f,g,h,i,l,m] b c
def s161_4:KJ:=fun b c d=>arg1 b fun b e=>arg1 e fun e f=>arg1 f fun f g=>arg1 g fun g h=>arg1 h fun h i=>arg1 i fun i l=>arg1 l fun l _=>j [a,b,b,e,f,g,h,i,l] c d
def s161_5:KR:=fun h i l=>pickK b h fF fun b=>cB b false (j [a,c,d,e,f,g,h] i l)
def s161_6:KR:=fun g h i=>jR b h i (s161_5 j a b c d e f g) fun a=>neqI g (.int .u8 (.ofNat 0)) fun b=>a b h i
def s161_7:KR:=fun f g h=>jR b g h (s161_6 j a b c d e f) fun a=>loadK g f fun b=>a b g h
def s161_8:KR:=fun e f g=>jR b f g (s161_7 j a b c d e) fun a=>iaddrAK 256 1 (.ptr 2 0) e fun b=>a b f g
def s161_9:KR:=fun d e f=>jR b e f (s161_8 j a b c d) fun a=>indexStrK c d fun b=>a b e f
def s161_10:KR:=fun c d e=>jR b d e (s161_9 j a b c) fun b=>b a d e
def s161_11:KQ:=fun c=>lssI b c fun c=>jR c H n (s161_10 j b c) fun b=>b a H n
def s161_12:KJ→KJ:=fun _ b c d=>arg1 b fun b e=>arg1 e fun _ e=>arg1 e fun _ e=>arg1 e fun _ e=>arg1 e fun _ e=>arg1 e fun _ e=>arg1 e fun _ _=>mQ (s161_11 j c d a b) (lenStr a)
def s161_13:KQ:=fun l=>iaddrK 1 b c fun b=>storeK 1 H b l fun _ b=>addI c (I 1) fun c=>addI d (I 1) fun d=>mJ (s161_4 j c) fun c=>iterN n (s161_12 c a) [d,e,f,g,h,i,o] b m
def s161_14:KQ:=fun l=>lssI e l fun l=>cB l (mJ (s161_3 J) fun j=>indexStrK a e fun l=>iaddrAK 256 1 (.ptr 2 0) l fun l=>loadK H l fun l=>eqlI l (.int .u8 (.ofNat 0)) fun l=>cB l (addI e (I 1) fun a=>j [c,d,a,f,g,h,i,o,p] H m) (mQ (s161_13 j H n m a b c e f g h i o p) (sliceStrK a (some d) (some e)))) (j [c,d] H m)
def s161_15:KJ→KJ:=fun c d e f=>arg1 d fun d g=>arg1 g fun g h=>arg1 h fun h i=>arg1 i fun i l=>arg1 l fun l m=>arg1 m fun m o=>arg1 o fun o p=>arg1 p fun p q=>arg1 q fun q _=>mQ (s161_14 j c e n f a b d g h i l m o p q) (lenStr a)
def s161_16:KJ:=fun c d e=>arg1 c fun c _=>mJ (s161_2 k a b) fun f=>iterN n (s161_15 f n a b) [I 0,c,c,.bad,.bad,.bad,.bad,.bad,.bad] d e
def s161_17:KR:=fun c d e=>pickK b c fF fun b=>cB b false (j [a] d e)
def s161_18:KR:=fun c d e=>jR b d e (s161_17 j a b) fun a=>neqI c (.int .u8 (.ofNat 0)) fun b=>a b d e
def s161_19:KR:=fun c d e=>jR b d e (s161_18 j a b) fun a=>loadK d c fun b=>a b d e
def s161_20:KR:=fun c d e=>jR b d e (s161_19 j a b) fun a=>iaddrAK 256 1 (.ptr 2 0) c fun b=>a b d e
def s161_21:KR:=fun d e f=>jR b e f (s161_20 j a b) fun a=>indexStrK c d fun b=>a b e f
def s161_22:KR:=fun c d e=>jR b d e (s161_21 j a b c) fun b=>b a d e
def s161_23:KQ:=fun c=>lssI b c fun c=>jR c H n (s161_22 j b c) fun b=>b a H n
def s161_24:KJ→KJ:=fun _ b c d=>arg1 b fun b e=>arg1 e fun _ e=>arg1 e fun _ e=>arg1 e fun _ e=>arg1 e fun _ e=>arg1 e fun _ e=>arg1 e fun _ _=>mQ (s161_23 j c d a b) (lenStr a)
def s161_25:KJ:=fun b c d=>arg1 b fun b e=>arg1 e fun e _=>geqI e (.int .u8 (.ofNat 128)) fun e=>cB e false (mkslK [.str 0 0] b b c d fun b c=>forceN (Nat.succ d) fun d=>mJ (s161_16 k n a b) fun b=>iterN n (s161_24 b a) [I 0,.bad,.bad,.bad,.bad,.bad,.bad] c d)
def s161_26:KJ:=fun b c d=>arg1 b fun b e=>arg1 e fun e f=>arg1 f fun f _=>addI a (I 1) fun a=>j [b,e,f,a] c d
def s161_27:KQ:=fun f=>lssI e f fun f=>cB f (mJ (s161_26 J e) fun f=>indexStrK a e fun a=>bitI .or d a fun d=>iaddrAK 256 1 (.ptr 2 0) a fun a=>loadK H a fun a=>convI .i64 a fun a=>cplI a fun e=>bitI .and c e fun c=>addI b c fun b=>f [b,a,d] H n) (j [b,d] H n)
def s161_28:KJ→KJ:=fun b c d e=>arg1 c fun c f=>arg1 f fun f g=>arg1 g fun g h=>arg1 h fun h _=>mQ (s161_27 j b d e a c f g h) (lenStr a)
def s161(a:Nat):Hand:=fun _ _ b c d e=>arg1 b fun b f=>arg0 f (mJ (s161_25 e a b) fun e=>iterN a (s161_28 e b) [I 0,I 1,.int .u8 (.ofNat 0),I 0] c d)
theorem h161:HO 161 s161:=hO 1 (T2 L0 (T2 L0 (T2 L0 (T2 L0 (T2 (T2 L0 (.one [3,5] (.one [3,4,5,6] (T2 (T2 L0 (T2 L0 L0)) (T2 (.one [3,4,5] (T2 L0 (T2 L0 (T2 L0 (T2 L0 L0))))) L0))))) (T2 (T2 L0 (T2 .stop L0)) (T2 L0 (T2 L0 (T2 L0 (T2 L0 (T2 (.one [12] (.one [12,47,48,49,50,51,52] (T2 (T2 L0 (T2 .stop L0)) .stop))) (T2 L0 (T2 (.one [10,11] (.one [10,11,12,85,86,87,88,89,90] (T2 (T2 L0 (T2 L0 L0)) (.one [10,11,12,85,86,87,88,89,90] (T2 (T2 L0 (T2 (T2 L0 L0) L0)) (T2 L0 (T2 L0 (T2 L0 (T2 (.one [12,85,86,87,88,89,90] (.one [12,85,86,87,88,89,90] (T2 (T2 L0 (T2 .stop L0)) .stop))) L0))))))))) (T2 (T2 L0 (T2 L0 .stop)) (T2 L0 L0))))))))))))))) Tryz.func161 Tryz.call161 fun N F G l H n k=>by kernel_rfl
def s162(_:Nat):Hand:=fun a _ b c d e=>arg1 b fun b f=>arg1 f fun f g=>arg0 g (boxE f c d fun c f=>forceN (Nat.succ d) fun d=>AV.ckOk c (a 64 [b,.fn (.func 163) [] [c]] f d e))
theorem h162:HO 162 s162:=hO 2 (T2 L0 (T2 L0 L0)) Tryz.func162 Tryz.call162 fun N F G l H n k=>by kernel_rfl
def s163_0:KR:=fun b c d=>pickK a fT b fun a=>k a c d
def s163_1:KR:=fun c d e=>jRn a d e (s163_0 k a) fun a=>geqI b c fun b=>a b d e
def s163_2:KR:=fun c d e=>jRn b d e (s163_1 k b c) fun b=>loadK d a fun a=>b a d e
def s163(_:Nat):Hand:=fun _ _ a b c d=>arg1 a fun a e=>arg1 e fun e f=>arg0 f (lssI a (I 0) fun f=>jRn f b c (s163_2 d e f) fun d=>d a b c)
theorem h163:HO 163 s163:=hO 2 (T2 L0 (T2 L0 L0)) Tryz.func163 Tryz.call163 fun N F G l H n k=>by kernel_rfl
def s164_0:KJ:=fun _ a b=>AV.ckOk .nils (AV.ckOk (I 0) (k (.tup [.nils,I 0]) a b))
def s164_1:KQ:=fun a=>AV.ckOk a (AV.ckOk (I 0) (k (.tup [a,I 0]) H n))
def s164_2:KJ:=fun c d e=>arg1 c fun c _=>cB c (faddrK 1 a fun a=>loadK d a fun a=>mQ (s164_1 d k e) (sliceK 1 a (some (I 1)) none)) (strB .eql b (.str 3 7959156) fun a=>cB a false (j [] d e))
def s164(_:Nat):Hand:=fun _ _ a b c d=>arg1 a fun a e=>arg0 e (boxE a b c fun a b=>forceN (Nat.succ c) fun c=>faddrK 0 a fun e=>loadK b e fun e=>mJ (s164_0 d) fun f=>strB .eql e (.str 5 465490374508) fun g=>cB g (faddrK 1 a fun a=>loadK b a fun a=>AV.ckOk a (AV.ckOk (I 0) (d (.tup [a,I 0]) b c))) (mJ (s164_2 f d a e) fun a=>strB .eql e (.str 4 1668248176) fun d=>cB d (a [d] b c) (strB .eql e (.str 9 1870935025940931240291) fun d=>a [d] b c)))
theorem h164:HO 164 s164:=hO 1 (T2 L0 (T2 (T2 L0 (.one [] (T2 L0 (T2 (T2 L0 L0) (.join [10] (T2 L0 (T2 L0 L0)) (T2 (T2 L0 L0) (T2 L0 (T2 .stop L0)))))))) (T2 L0 L0))) Tryz.func164 Tryz.call164 fun N F G l H n k=>by kernel_rfl
def s165_0:KJ:=fun _ b c=>faddrK 1 a fun a=>loadK b a fun a=>k a b c
def s165_1:KJ:=fun b c d=>arg1 b fun b _=>cB b (faddrK 1 a fun a=>loadK c a fun a=>mQ (fun a=>k a c d) (sliceK 1 a none (some (I 1)))) (j [] c d)
def s165_2:KJ:=fun c d e=>arg1 c fun c _=>cB c (k .nils d e) (mJ (s165_1 j k a) fun a=>strB .eql b (.str 4 1668248176) fun c=>cB c (a [c] d e) (strB .eql b (.str 9 1870935025940931240291) fun b=>a [b] d e))
def s165(_:Nat):Hand:=fun _ _ a b c d=>arg1 a fun a e=>arg0 e (boxE a b c fun a b=>forceN (Nat.succ c) fun c=>faddrK 0 a fun e=>loadK b e fun e=>mJ (s165_0 d a) fun f=>mJ (s165_2 f d a e) fun a=>strB .eql e (.str 5 465490374508) fun d=>cB d (a [d] b c) (strB .eql e (.str 3 7959156) fun d=>a [d] b c))
theorem h165:HO 165 s165:=hO 1 (T2 L0 (T2 (T2 L0 (.one [] (.join [5] (T2 L0 (T2 L0 L0)) (T2 (T2 L0 L0) (.join [8] (T2 L0 (T2 L0 L0)) (T2 (T2 L0 L0) L0)))))) (T2 L0 L0))) Tryz.func165 Tryz.call165 fun N F G l H n k=>by kernel_rfl
def s166(_:Nat):Hand:=fun a _ b c d e=>arg1 b fun b f=>arg1 f fun f g=>arg0 g (a 245 [b,f] c d fun a b c=>geqI a (I 0) fun a=>e a b c)
theorem h166:HO 166 s166:=hO 2 (T2 L0 (T2 L0 L0)) Tryz.func166 Tryz.call166 fun N F G l H n k=>by kernel_rfl
def s167_0:KJ:=fun a b c=>arg1 a fun a _=>addI a (I 1) fun a=>j [a] b c
def s167_1:KR:=fun _ c d=>mQ (fun a=>k a c d) (sliceK 1 a none (some b))
def s167_2:KQ:=fun c=>mR (s167_1 k a b) fun a=>clrS [I 0] H c fun b c=>a b c n
def s167_3:KJ:=fun b c d=>arg1 b fun b _=>mQ (s167_2 c k d a b) (sliceK 1 a (some b) none)
def s167_4:KJ:=fun b c d=>arg1 b fun b _=>addI a (I 1) fun a=>j [b,a] c d
def s167_5:KQ:=fun e=>lssI d e fun e=>cB e (mJ (s167_4 J d) fun e=>iaddrK 1 b d fun f=>loadK H f fun f=>subI d (I 1) fun g=>iaddrK 1 b g fun g=>loadK H g fun g=>neqI f g fun f=>cB f (iaddrK 1 b d fun b=>loadK H b fun b=>iaddrK 1 a c fun a=>storeK 1 H a b fun _ a=>addI c (I 1) fun b=>e [b] a n) (e [c] H n)) (j [c] H n)
def s167_6:KJ→KJ:=fun c d e f=>arg1 d fun d g=>arg1 g fun g _=>mQ (s167_5 j c e f a b d g) (lenSl b)
def s167_7:KQ:=fun c=>mJ (s167_3 k a) fun d=>iterN n (s167_6 d a c) [b,I 1] H m
def s167_8:KQ:=fun c=>lssI b c fun c=>cB c (mJ (s167_0 j) fun c=>iaddrK 1 a b fun d=>loadK H d fun d=>subI b (I 1) fun e=>iaddrK 1 a e fun e=>loadK H e fun e=>eqlI d e fun d=>cB d (mQ (s167_7 H k n m a b) (sliceK 1 a (some b) none)) (c [b] H m)) (J [] H m)
def s167_9:KJ→KJ:=fun b c d e=>arg1 c fun c _=>mQ (s167_8 b j d k n e a c) (lenSl a)
def s167_10:KQ:=fun b=>lssI b (I 2) fun b=>cB b (k a H m) (mJ (fun _ b c=>k a b c) fun b=>iterN n (s167_9 b k n a) [I 1] H m)
def s167(a:Nat):Hand:=fun _ _ b c d e=>arg1 b fun b f=>arg0 f (mQ (s167_10 c e a d b) (lenSl b))
theorem h167:HO 167 s167:=hO 1 (T2 L0 (T2 (T2 L0 (T2 (T2 L0 L0) L0)) (T2 (T2 L0 (.one [] (.one [3] (T2 (T2 L0 (T2 L0 L0)) (T2 (.one [3] (T2 L0 (T2 (T2 L0 (T2 (T2 L0 (.one [3] (.one [3,5] (T2 (T2 L0 (T2 L0 L0)) (T2 (.one [3] (T2 L0 (T2 (T2 L0 L0) L0))) L0))))) (T2 L0 (T2 L0 L0)))) L0))) L0))))) (T2 L0 L0)))) Tryz.func167 Tryz.call167 fun N F G l H n k=>by kernel_rfl
def s168_0:KR:=fun _ c d=>mQ (fun a=>k a c d) (sliceK 1 a none (some b))
def s168_1:KQ:=fun c=>mR (s168_0 k a b) fun a=>clrS [I 0] H c fun b c=>a b c n
def s168_2:KJ:=fun b c d=>arg1 b fun b _=>mQ (s168_1 c k d a b) (sliceK 1 a (some b) none)
def s168_3:KQ:=fun c=>lssI b c fun b=>cB b false (j [a] H n)
def s168_4:KJ→KJ:=fun _ b c d=>arg1 b fun b e=>arg1 e fun e _=>mQ (s168_3 j c d b e) (lenSl a)
def s168(a:Nat):Hand:=fun b _ c d e f=>arg1 c fun c g=>arg1 g fun g h=>arg0 h (b 170 [c,g] d e fun b d e=>eqlI b (.int .i64 (.negSucc 0)) fun g=>cB g (f c d e) (addI b (I 1) fun g=>mJ (s168_2 f c) fun f=>iterN a (s168_4 f c) [b,g] d e))
theorem h168:HO 168 s168:=hO 2 (T2 L0 (T2 L0 (T2 (T2 L0 (T2 (T2 L0 L0) L0)) (T2 (T2 L0 (.one [5] (.one [5,6] (T2 (T2 L0 (T2 .stop L0)) .stop)))) (T2 L0 (T2 L0 L0)))))) Tryz.func168 Tryz.call168 fun N F G l H n k=>by kernel_rfl
def s169_0:KQ:=fun b=>F 166 [b,a] H n k
def s169(_:Nat):Hand:=fun a _ b c d e=>arg1 b fun b f=>arg1 f fun f g=>arg0 g (faddrK 1 f fun f=>loadK c f fun f=>mQ (s169_0 a c e d b) (sliceK 1 f (some (I 1)) none))
theorem h169:HO 169 s169:=hO 2 (T2 L0 (T2 L0 L0)) Tryz.func169 Tryz.call169 fun N F G l H n k=>by kernel_rfl
def s170_0:KJ:=fun _ a b=>k (.int .i64 (.negSucc 0)) a b
def s170_1:KJ:=fun _ b c=>addI a (I 1) fun a=>j [a] b c
def s170_2:KJ→KJ:=fun d e f g=>arg1 e fun e _=>lssI e c fun c=>cB c (mJ (s170_1 d e) fun c=>iaddrK 1 a e fun a=>loadK f a fun a=>callV F G b [a] f g fun a b d=>cB a (k e b d) (c [] b d)) (j [] f g)
def s170_3:KQ:=fun c=>mJ (s170_0 k) fun d=>iterN n (s170_2 F G d k a b c) [I 0] H m
def s170(a:Nat):Hand:=fun b c d e f g=>arg1 d fun d h=>arg1 h fun h i=>arg0 i (mQ (s170_3 b c e g a f d h) (lenSl d))
theorem h170:HO 170 s170:=hO 2 (T2 L0 (T2 (T2 L0 (.one [] (.one [8] (T2 L0 (T2 (T2 L0 L0) (T2 (.one [] (T2 L0 (T2 L0 (T2 (T2 L0 L0) L0)))) L0)))))) (T2 L0 L0))) Tryz.func170 Tryz.call170 fun N F G l H n k=>by kernel_rfl
end
end Ev
