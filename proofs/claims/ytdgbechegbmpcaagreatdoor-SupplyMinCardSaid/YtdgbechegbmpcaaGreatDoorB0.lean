/- Part of a proof that a law returns true. Conditions: those in each theorem. -/
import Derived.Test.YtdgbechegbmpcaaGreatDoorEngP
import Derived.Test.YtdgbechegbmpcaaGreatDoorProg
import Derived.KernelRfl
import Derived.Maps.Range
import Derived.Shelf.SlIterI.Nil
import Derived.Maps.Keyed
set_option linter.unusedVariables false
set_option linter.unusedSimpArgs false
set_option maxRecDepth 100000
namespace Go.Proofs
theorem Tryz.C4s:Tryz.prog.follows .mixedOrders=true:=by kernel_rfl
end Go.Proofs
namespace Go.Proofs.YtdgbechegbmpcaaGreatDoor
def Q(p:Prop):Prop:=p
abbrev vi(n:Int):Value:=.int .i64 n
abbrev OA:=Option Addr
abbrev pt(a:OA):Value:=.pointer a
abbrev sl(a:OA)(l c:Nat):Value:=.slice a l c
abbrev rT(v:Value):Ending:=.returned v
abbrev aD(n:Nat):OA:=some ⟨n,0,none⟩
abbrev AP(b:Nat):Value:=.pointer (some ⟨b,0,none⟩)
abbrev KV:=Value->World->Prop
abbrev Wp(p:OA)(X:Prop):Prop:=Eng.Wif (Eng.isP p) X False
abbrev Wn(n:Int)(l:Nat)(X:Prop):Prop:=Eng.Wif (Eng.inB n l) X False
abbrev Dr(w:World)(X:World->Prop):Prop:=∀w1,w1=w.drew->X w1
abbrev RI(w:World)(b o:Nat)(X:Int->Prop):Prop:=∃x:Int,Eng.rd w b o=some (vi x)/\X x
abbrev RP(w:World)(b o:Nat)(X:OA->Prop):Prop:=∃x:OA,Eng.rd w b o=some (.pointer x)/\X x
abbrev RS(w:World)(b o:Nat)(X:OA->Nat->Nat->Prop):Prop:=∃(a:OA) (l c:Nat),Eng.rd w b o=some (.slice a l c)/\X a l c
abbrev CI(f:Nat)(a:Array Value)(w:World)(X:Int->World->Prop):Prop:=Go.Calls Tryz.prog f a w λe w'=>∃n:Int,e=.returned (vi n)/\X n w'
abbrev CJ(f:Nat)(a:Array Value)(w:World)(X:Int->Int->World->Prop):Prop:=Go.Calls Tryz.prog f a w λe w'=>∃n m:Int,e=.returned (.tuple #[vi n,vi m])/\X n m w'
abbrev CB(f:Nat)(a:Array Value)(w:World)(X:Bool->World->Prop):Prop:=Go.Calls Tryz.prog f a w λe w'=>∃b:Bool,e=.returned (.bool b)/\X b w'
abbrev CP(f:Nat)(a:Array Value)(w:World)(X:OA->World->Prop):Prop:=Go.Calls Tryz.prog f a w λe w'=>∃p:OA,e=.returned (.pointer p)/\X p w'
abbrev CS(f:Nat)(a:Array Value)(w:World)(X:OA->Nat->Nat->World->Prop):Prop:=Go.Calls Tryz.prog f a w λe w'=>∃(a:OA) (l c:Nat),e=.returned (.slice a l c)/\X a l c w'
abbrev C0(f:Nat)(a:Array Value)(w:World)(X:World->Prop):Prop:=Go.Calls Tryz.prog f a w λe w'=>e=.returned (.tuple #[])/\X w'
abbrev Ret(f:FuncId)(a:Array Value)(w:World)(K:KV):Prop:=Go.Calls Tryz.prog f a w λe w'=>∃v,e=.returned v/\K v w'
theorem vcA(inl:List Nat)(d:Nat)(J:List Nat){f:FuncId}{fn:Func}(hf:Tryz.prog.funcs[f]? = some fn){args:List Value}{w:World}{K:KV}{X:Prop}(h:X)(hb:fn.body.isSome=true:=by kernel_rfl)(hn:decide (args.length<=fn.ntmps)=true:=by kernel_rfl)
 (hX:X=Eng.A9x Tryz.prog (Eng.A6v Tryz.prog inl d) J fn (Eng.A7h fn) args w K:=by kernel_rfl):Ret f args.toArray w K:=Eng.vc_of inl d J Tryz.C4s hf hb hn hX h
abbrev bx(w:World):OA:=some ⟨w.heap.size,0,none⟩
abbrev bp(w:World):Value:=.pointer (some ⟨w.heap.size,0,none⟩)
abbrev vu(n:Int):Value:=.int .u8 n
abbrev AW(w:World)(c:Array Value)(t:TypeId)(X:World->Prop):Prop:=∀w1,w1=w.alloc (.cells c t)->X w1
abbrev Sw(w:World)(b o:Nat)(v:Value)(X:World->Prop):Prop:=Eng.wr w b o/\∀w1,w1=Eng.st w b o v->X w1
abbrev St(w:World)(b o:Nat)(v:Value)(X:World->Prop):Prop:=∀w1,w1=Eng.st w b o v->X w1
abbrev Rt(w:World)(b o:Nat)(v:Value)(X:Prop):Prop:=(Eng.rd w b o=some v/\True)/\X
abbrev Lt(n:Nat)(X:Nat->Prop):Prop:=∃m,Nat.succ m<=n/\X m
abbrev RV(w:World)(b o:Nat)(X:Value->Prop):Prop:=∃x:Value,Eng.rd w b o=some x/\X x
abbrev RB(w:World)(b o:Nat)(X:Bool->Prop):Prop:=∃x:Bool,Eng.rd w b o=some (.bool x)/\X x
abbrev R8(w:World)(b o:Nat)(X:Int->Prop):Prop:=∃x:Int,Eng.rd w b o=some (.int .u8 x)/\X x
abbrev Ri(w:World)(p:OA)(o:Nat)(X:Int->Prop):Prop:=RI w (Eng.pb p) (Eng.po p+o) X
abbrev Rp(w:World)(p:OA)(o:Nat)(X:OA->Prop):Prop:=RP w (Eng.pb p) (Eng.po p+o) X
abbrev Rs(w:World)(p:OA)(o:Nat)(X:OA->Nat->Nat->Prop):Prop:=RS w (Eng.pb p) (Eng.po p+o) X
abbrev Rv(w:World)(p:OA)(o:Nat)(X:Value->Prop):Prop:=RV w (Eng.pb p) (Eng.po p+o) X
abbrev Rb(w:World)(p:OA)(o:Nat)(X:Bool->Prop):Prop:=RB w (Eng.pb p) (Eng.po p+o) X
abbrev Re(w:World)(p:OA)(o:Nat)(X:Int->Prop):Prop:=R8 w (Eng.pb p) (Eng.po p+o) X
abbrev L0:List Nat:=[104]
abbrev L1:List Nat:=[167,58,178,213,179,222,165,234,98,169,90,41,104,56,166,51,155,50,180]
abbrev L2:List Nat:=[167,58,178,213,179,222,165,234,98,169,90,41,104,56,166]
abbrev L3:List Nat:=[167,58,178,213,179,222,165,234,98,169,90,41,104,56,166,155,180]
abbrev L4:List Nat:=[167,58,178,213,179,222,165,234,98,169,90,41,104,56,166,155,180,177]
abbrev L5:List Nat:=[167,58,178,213,179,222,165,234,98,169,90,41,104,56,166,155,180,177,206,208,209,210]
abbrev L6:List Nat:=[167,58,178,213,179,222,165,234,98,169,90,41,104,56,166,155,180,177,279]
abbrev L7:List Nat:=[167,58,178,213,179,222,165,234,98,169,90,41,104]
abbrev L8:List Nat:=[167,58,178,213,179,222,165,234,98,169,90,41,104,55]
abbrev L9:List Nat:=[167,58,178,213,179,222,165,234,98,66,169,90,41,104,151,340]
abbrev L10:List Nat:=[169]
abbrev L11:List Nat:=[205]
abbrev L12:List Nat:=[179]
abbrev L13:List Nat:=[167,58,178,213,179,222,165,234,98,169,90,41,104,340,346]
abbrev L14:List Nat:=[104,90,41,169]
abbrev L15:List Nat:=[104,204,90,41]
abbrev L16:List Nat:=[104,204]
end Go.Proofs.YtdgbechegbmpcaaGreatDoor
namespace Go.Proofs.YtdgbechegbmpcaaGreatDoor
open Go Go.Eng Go.Proofs.Tryz
open Go.Value (bool func slice agg int)
open Option (isNone)
open Go.IntKind (wrap)
open List (replicate range)
theorem vc61(c0:NI)(w:WD)(K:KV)(h:Q (AW w (List.toArray (AQ .i64 c0 0 94)) 26 λw'=>∃(x:NI),BB w' w.heap.size 0 (AQ .i64 x 0 94)/\CB 60 #[agg (List.toArray (AQ .i64 x 0 94))] w' λb w'=>Wif (!b) (K (.tuple #[pt none,vi 2]) w') (∃(x:NI),BB w' w.heap.size 0 (AQ .i64 x 0 94)/\CI 172 #[agg (List.toArray (AQ .i64 x 0 94))] w' λn w'=>Dr w' λg=>∃(x:NI),BB g w.heap.size 0 (AQ .i64 x 0 94)/\Wif (IU 1 (wrap .i64 (n*256)) (wrap .i64 (n*256))) (AW g (List.toArray (replicate (Int.toNat (wrap .i64 (n*256))) (vu 0))) 5 λw'=>(BB w' w.heap.size 0 (AQ .i64 x 0 94)/\True)/\AW w' #[vu 1,vi 0,vi 0,vi 0,vi 0] 86 λd=>(BB d w.heap.size 0 (AQ .i64 x 0 94)/\True)/\CS 173 #[sl (aD w'.heap.size) 1 1,vi n] d λa l c w'=>(BB w' w.heap.size 0 (AQ .i64 x 0 94)/\True)/\AW w' (List.toArray (AQ .i64 x 0 94++[sl (aD g.heap.size) (Int.toNat (wrap .i64 (n*256))) (Int.toNat (wrap .i64 (n*256))),sl a l c])) 163 λf=>K (.tuple #[AP w'.heap.size,vi 0]) f) False/\AW g #[vu 1,vi 0,vi 0,vi 0,vi 0] 86 λw'=>(BB w' w.heap.size 0 (AQ .i64 x 0 94)/\True)/\Wif (IU 1 (wrap .i64 (n*256)) (wrap .i64 (n*256))) (AW w' (List.toArray (replicate (Int.toNat (wrap .i64 (n*256))) (vu 0))) 5 λd=>(BB d w.heap.size 0 (AQ .i64 x 0 94)/\True)/\Calls prog 173 #[sl (aD g.heap.size) 1 1,vi n] d λ(e:Ending) (f:WD)=>∃(a:OA) (l c:Nat),e=rT (sl a l c)/\(BB f w.heap.size 0 (AQ .i64 x 0 94)/\True)/\AW f (List.toArray (AQ .i64 x 0 94++[sl (aD w'.heap.size) (Int.toNat (wrap .i64 (n*256))) (Int.toNat (wrap .i64 (n*256))),sl a l c])) 163 λh=>K (.tuple #[AP f.heap.size,vi 0]) h) False/\CS 173 #[sl (aD g.heap.size) 1 1,vi n] w' λa l c w'=>(BB w' w.heap.size 0 (AQ .i64 x 0 94)/\True)/\Wif (IU 1 (wrap .i64 (n*256)) (wrap .i64 (n*256))) (AW w' (List.toArray (replicate (Int.toNat (wrap .i64 (n*256))) (vu 0))) 5 λd=>(BB d w.heap.size 0 (AQ .i64 x 0 94)/\True)/\AW d (List.toArray (AQ .i64 x 0 94++[sl (aD w'.heap.size) (Int.toNat (wrap .i64 (n*256))) (Int.toNat (wrap .i64 (n*256))),sl a l c])) 163 λf=>K (.tuple #[AP d.heap.size,vi 0]) f) False))):Ret 61 #[agg (List.toArray (AQ .i64 c0 0 94))] w K:=vcA L9 2 [] func61 h
theorem vc63(AY:Int)(w:WD)(K:KV)(h:Q (Wif (IU 256 (if 1024<if 0>AY then 0 else AY then 1024 else if 0>AY then 0 else AY) (if 1024<if 0>AY then 0 else AY then 1024 else if 0>AY then 0 else AY)) (AW w (DO (List.toArray (replicate 256 (vu 0))) 256 (Int.toNat (if 1024<if 0>AY then 0 else AY then 1024 else if 0>AY then 0 else AY))) 272 λw'=>AW w' #[sl (aD w.heap.size) (Int.toNat (if 1024<if 0>AY then 0 else AY then 1024 else if 0>AY then 0 else AY)) (Int.toNat (if 1024<if 0>AY then 0 else AY then 1024 else if 0>AY then 0 else AY)),bool true] 281 λa=>K (AP w'.heap.size) a) False)):Ret 63 #[vi AY] w K:=vcA L9 2 [] func63 h
theorem vc64(n:Int)(w:WD)(K:KV)(h:Q (AW w (List.toArray ([vi (if 64<if 0>n then 0 else n then 64 else if 0>n then 0 else n)]++(replicate 64 (vi 0)++[bool true]))) 284 λw'=>K (AP w.heap.size) w')):Ret 64 #[vi n] w K:=vcA L9 2 [] func64 h
theorem vc65(frames:Int)(w:WD)(K:KV)(h:Q (Wif (IU 16 (if 1024<if 0>frames then 0 else frames then 1024 else if 0>frames then 0 else frames) (if 1024<if 0>frames then 0 else frames then 1024 else if 0>frames then 0 else frames)) (AW w (DO #[vi 0,vi 0] 2 (Int.toNat (if 1024<if 0>frames then 0 else frames then 1024 else if 0>frames then 0 else frames))) 308 λw'=>∀a,a=w'.alloc (.map #[] 0)->AW a #[sl (aD w.heap.size) (Int.toNat (if 1024<if 0>frames then 0 else frames then 1024 else if 0>frames then 0 else frames)) (Int.toNat (if 1024<if 0>frames then 0 else frames then 1024 else if 0>frames then 0 else frames)),Value.map (some w'.heap.size)] 288 λb=>K (AP a.heap.size) b) False)):Ret 65 #[vi frames] w K:=vcA L9 2 [] func65 h
theorem vc67(n:Int)(w:WD)(K:KV)(h:Q (Wif (IU 16 (if 1024<if 0>n then 0 else n then 1024 else if 0>n then 0 else n) (if 1024<if 0>n then 0 else n then 1024 else if 0>n then 0 else n)) (AW w (DO #[vi 0,vi 0] 2 (Int.toNat (if 1024<if 0>n then 0 else n then 1024 else if 0>n then 0 else n))) 263 λw'=>AW w' #[sl (aD w.heap.size) (Int.toNat (if 1024<if 0>n then 0 else n then 1024 else if 0>n then 0 else n)) (Int.toNat (if 1024<if 0>n then 0 else n then 1024 else if 0>n then 0 else n)),bool true] 266 λa=>K (AP w'.heap.size) a) False)):Ret 67 #[vi n] w K:=vcA L9 2 [] func67 h
def vcP68(n:Int)(make:Value)(w:WD)(K:KV):Prop:=∃(I:OA->Nat->Nat->Int->WD->Nat->Prop),(∃(n:Nat),I none 0 0 0 w n)/\∀(a:OA) (l c:Nat) (b:Int) (w':WD) (f:Nat),I a l c b w' f->Wif (decide (b<n)) (AN prog make [vi b] w' λe w'=>∃(p:OA),e=rT (.pointer p)/\AW w' #[pt p] 174 λi=>∃(g:OA) (h c_1:Nat) (d:WD),BL prog #[43,43] 43 (sl a l c) (sl (aD w'.heap.size) 1 1) (sl g h c_1) i d/\Lt f λm=>I g h c_1 (wrap .i64 (b+1)) d m) (K (sl a l c) w')
theorem vc68(n:Int)(make:Value)(w:WD)(K:KV)(h:vcP68 n make w K):Ret 68 #[vi n,make] w K:=vcA [] 2 [2000011] func68 h
def vcP70(w:WD)(K:KV):Prop:=∀w',w'=w.alloc (.map #[] 0)->AW w' #[sl none 0 0,Value.map (some w.heap.size)] 291 λa=>K (AP w'.heap.size) a
theorem vc70(w:WD)(K:KV)(h:vcP70  w K):Ret 70 #[] w K:=vcA L9 2 [] func70 h
def vcP71(n:Int)(make:Value)(w:WD)(K:KV):Prop:=∃(I:OA->Nat->Nat->Int->WD->Nat->Prop),(∃(n:Nat),I none 0 0 0 w n)/\∀(a:OA) (l c:Nat) (b:Int) (w':WD) (f:Nat),I a l c b w' f->Wif (decide (b<n)) (AN prog make [vi b] w' λe w'=>∃(g:OA) (h c_1:Nat),e=rT (sl g h c_1)/\AW w' #[sl g h c_1] 178 λk=>∃(i:OA) (j c_2:Nat) (d:WD),BL prog #[44,44] 44 (sl a l c) (sl (aD w'.heap.size) 1 1) (sl i j c_2) k d/\Lt f λm=>I i j c_2 (wrap .i64 (b+1)) d m) (K (sl a l c) w')
theorem vc71(n:Int)(make:Value)(w:WD)(K:KV)(h:vcP71 n make w K):Ret 71 #[vi n,make] w K:=vcA L9 2 [2000011] func71 h
def vcP73(n:Int)(make:Value)(w:WD)(K:KV):Prop:=∃(I:OA->Nat->Nat->Int->WD->Nat->Prop),(∃(n:Nat),I none 0 0 0 w n)/\∀(a:OA) (l c:Nat) (b:Int) (w':WD) (f:Nat),I a l c b w' f->Wif (decide (b<n)) (AN prog make [vi b] w' λe w'=>∃(p:OA),e=rT (.pointer p)/\AW w' #[pt p] 180 λi=>∃(g:OA) (h c_1:Nat) (d:WD),BL prog #[178,178] 178 (sl a l c) (sl (aD w'.heap.size) 1 1) (sl g h c_1) i d/\Lt f λm=>I g h c_1 (wrap .i64 (b+1)) d m) (K (sl a l c) w')
theorem vc73(n:Int)(make:Value)(w:WD)(K:KV)(h:vcP73 n make w K):Ret 73 #[vi n,make] w K:=vcA L9 2 [2000011] func73 h
theorem vc75(size:Int)(w:WD)(K:KV)(h:Q (AW w (List.toArray (replicate 256 (vu 0))) 5 λw'=>Calls prog 175 #[sl (aD w.heap.size) 256 256,vi size,vi 0] w' λe w'=>∃(p:OA) (n:Int),e=rT (.tuple #[pt p,vi n])/\Wif (n != 0) (K (.tuple #[pt none,vi n]) w') (∀a,a=w'.alloc (.map #[] 0)->AW a #[vi size,vi 0,Value.map (some w'.heap.size)] 297 λb=>K (.tuple #[AP a.heap.size,vi 0]) b))):Ret 75 #[vi size] w K:=vcA L9 2 [] func75 h
def vcP76(n:Int)(make:Value)(w:WD)(K:KV):Prop:=∃(I:OA->Nat->Nat->Int->WD->Nat->Prop),(∃(n:Nat),I none 0 0 0 w n)/\∀(a:OA) (l c:Nat) (b:Int) (w':WD) (f:Nat),I a l c b w' f->Wif (decide (b<n)) (AN prog make [vi b] w' λe w'=>∃(g:OA) (h c_1:Nat),e=rT (sl g h c_1)/\AW w' #[sl g h c_1] 186 λk=>∃(i:OA) (j c_2:Nat) (d:WD),BL prog #[45,45] 45 (sl a l c) (sl (aD w'.heap.size) 1 1) (sl i j c_2) k d/\Lt f λm=>I i j c_2 (wrap .i64 (b+1)) d m) (K (sl a l c) w')
theorem vc76(n:Int)(make:Value)(w:WD)(K:KV)(h:vcP76 n make w K):Ret 76 #[vi n,make] w K:=vcA L9 2 [2000011] func76 h
def vcP78(n:Int)(make:Value)(w:WD)(K:KV):Prop:=∃(I:OA->Nat->Nat->Int->WD->Nat->Prop),(∃(n:Nat),I none 0 0 0 w n)/\∀(a:OA) (l c:Nat) (b:Int) (w':WD) (f:Nat),I a l c b w' f->Wif (decide (b<n)) (AN prog make [vi b] w' λe w'=>∃(p:OA),e=rT (.pointer p)/\AW w' #[pt p] 188 λi=>∃(g:OA) (h c_1:Nat) (d:WD),BL prog #[186,186] 186 (sl a l c) (sl (aD w'.heap.size) 1 1) (sl g h c_1) i d/\Lt f λm=>I g h c_1 (wrap .i64 (b+1)) d m) (K (sl a l c) w')
theorem vc78(n:Int)(make:Value)(w:WD)(K:KV)(h:vcP78 n make w K):Ret 78 #[vi n,make] w K:=vcA L9 2 [2000011] func78 h
theorem vc80(rounds:Int)(w:WD)(K:KV)(h:Q (AW w #[vi (if 32<if 1>rounds then 1 else rounds then 32 else if 1>rounds then 1 else rounds),sl none 0 0,sl none 0 0] 299 λw'=>K (AP w.heap.size) w')):Ret 80 #[vi rounds] w K:=vcA L9 2 [] func80 h
def vcP81(n:Int)(make:Value)(w:WD)(K:KV):Prop:=∃(I:OA->Nat->Nat->Int->WD->Nat->Prop),(∃(n:Nat),I none 0 0 0 w n)/\∀(a:OA) (l c:Nat) (b:Int) (w':WD) (f:Nat),I a l c b w' f->Wif (decide (b<n)) (AN prog make [vi b] w' λe w'=>∃(g:OA) (h c_1:Nat),e=rT (sl g h c_1)/\AW w' #[sl g h c_1] 192 λk=>∃(i:OA) (j c_2:Nat) (d:WD),BL prog #[46,46] 46 (sl a l c) (sl (aD w'.heap.size) 1 1) (sl i j c_2) k d/\Lt f λm=>I i j c_2 (wrap .i64 (b+1)) d m) (K (sl a l c) w')
theorem vc81(n:Int)(make:Value)(w:WD)(K:KV)(h:vcP81 n make w K):Ret 81 #[vi n,make] w K:=vcA L9 2 [2000011] func81 h
def vcP83(n:Int)(make:Value)(w:WD)(K:KV):Prop:=∃(I:OA->Nat->Nat->Int->WD->Nat->Prop),(∃(n:Nat),I none 0 0 0 w n)/\∀(a:OA) (l c:Nat) (b:Int) (w':WD) (f:Nat),I a l c b w' f->Wif (decide (b<n)) (AN prog make [vi b] w' λe w'=>∃(p:OA),e=rT (.pointer p)/\AW w' #[pt p] 194 λi=>∃(g:OA) (h c_1:Nat) (d:WD),BL prog #[192,192] 192 (sl a l c) (sl (aD w'.heap.size) 1 1) (sl g h c_1) i d/\Lt f λm=>I g h c_1 (wrap .i64 (b+1)) d m) (K (sl a l c) w')
theorem vc83(n:Int)(make:Value)(w:WD)(K:KV)(h:vcP83 n make w K):Ret 83 #[vi n,make] w K:=vcA L9 2 [2000011] func83 h
theorem vc85(rounds:Int)(w:WD)(K:KV)(h:Q (AW w #[vi (if 32<if 1>rounds then 1 else rounds then 32 else if 1>rounds then 1 else rounds),sl none 0 0,sl none 0 0] 302 λw'=>K (AP w.heap.size) w')):Ret 85 #[vi rounds] w K:=vcA L9 2 [] func85 h
def vcP86(n:Int)(make:Value)(w:WD)(K:KV):Prop:=∃(I:OA->Nat->Nat->Int->WD->Nat->Prop),(∃(n:Nat),I none 0 0 0 w n)/\∀(a:OA) (l c:Nat) (b:Int) (w':WD) (f:Nat),I a l c b w' f->Wif (decide (b<n)) (AN prog make [vi b] w' λe w'=>∃(n:Int),e=rT (.int .u64 n)/\AW w' #[int .u64 n] 76 λi=>∃(g:OA) (h c_1:Nat) (d:WD),BL prog #[47,47] 47 (sl a l c) (sl (aD w'.heap.size) 1 1) (sl g h c_1) i d/\Lt f λm=>I g h c_1 (wrap .i64 (b+1)) d m) (K (sl a l c) w')
theorem vc86(n:Int)(make:Value)(w:WD)(K:KV)(h:vcP86 n make w K):Ret 86 #[vi n,make] w K:=vcA L9 2 [2000011] func86 h
def vcP88(n:Int)(make:Value)(w:WD)(K:KV):Prop:=∃(I:OA->Nat->Nat->Int->WD->Nat->Prop),(∃(n:Nat),I none 0 0 0 w n)/\∀(a:OA) (l c:Nat) (b:Int) (w':WD) (f:Nat),I a l c b w' f->Wif (decide (b<n)) (AN prog make [vi b] w' λe w'=>∃(n:Int),e=rT (vi n)/\AW w' #[vi n] 3 λi=>∃(g:OA) (h c_1:Nat) (d:WD),BL prog #[27,27] 27 (sl a l c) (sl (aD w'.heap.size) 1 1) (sl g h c_1) i d/\Lt f λm=>I g h c_1 (wrap .i64 (b+1)) d m) (K (sl a l c) w')
theorem vc88(n:Int)(make:Value)(w:WD)(K:KV)(h:vcP88 n make w K):Ret 88 #[vi n,make] w K:=vcA L9 2 [2000011] func88 h
def vcP127(n:Int)(make:Value)(w:WD)(K:KV):Prop:=∃(I:OA->Nat->Nat->Int->WD->Nat->Prop),(∃(n:Nat),I none 0 0 0 w n)/\∀(a:OA) (l c:Nat) (b:Int) (w':WD) (f:Nat),I a l c b w' f->Wif (decide (b<n)) (AN prog make [vi b] w' λe w'=>∃(n g h i j:Int),e=rT (.agg #[vu n,vi g,vi h,vi i,vi j])/\AW w' #[vu n,vi g,vi h,vi i,vi j] 86 λp=>∃(k:OA) (o c_1:Nat) (d:WD),BL prog #[130,130] 130 (sl a l c) (sl (aD w'.heap.size) 1 1) (sl k o c_1) p d/\Lt f λm=>I k o c_1 (wrap .i64 (b+1)) d m) (K (sl a l c) w')
theorem vc127(n:Int)(make:Value)(w:WD)(K:KV)(h:vcP127 n make w K):Ret 127 #[vi n,make] w K:=vcA L9 2 [2000011] func127 h
def vcP131(n:Int)(make:Value)(w:WD)(K:KV):Prop:=∃(I:OA->Nat->Nat->Int->WD->Nat->Prop),(∃(n:Nat),I none 0 0 0 w n)/\∀(a:OA) (l c:Nat) (b:Int) (w':WD) (f:Nat),I a l c b w' f->Wif (decide (b<n)) (AN prog make [vi b] w' λe w'=>∃(g:OA) (h c_1:Nat),e=rT (sl g h c_1)/\AW w' #[sl g h c_1] 27 λk=>∃(i:OA) (j c_2:Nat) (d:WD),BL prog #[50,50] 50 (sl a l c) (sl (aD w'.heap.size) 1 1) (sl i j c_2) k d/\Lt f λm=>I i j c_2 (wrap .i64 (b+1)) d m) (K (sl a l c) w')
theorem vc131(n:Int)(make:Value)(w:WD)(K:KV)(h:vcP131 n make w K):Ret 131 #[vi n,make] w K:=vcA L9 2 [2000011] func131 h
def vcP134(n:Int)(make:Value)(w:WD)(K:KV):Prop:=∃(I:OA->Nat->Nat->Int->WD->Nat->Prop),(∃(n:Nat),I none 0 0 0 w n)/\∀(a:OA) (l c:Nat) (b:Int) (w':WD) (f:Nat),I a l c b w' f->Wif (decide (b<n)) (AN prog make [vi b] w' λe w'=>∃(g:OA) (h c_1:Nat),e=rT (sl g h c_1)/\AW w' #[sl g h c_1] 239 λk=>∃(i:OA) (j c_2:Nat) (d:WD),BL prog #[51,51] 51 (sl a l c) (sl (aD w'.heap.size) 1 1) (sl i j c_2) k d/\Lt f λm=>I i j c_2 (wrap .i64 (b+1)) d m) (K (sl a l c) w')
theorem vc134(n:Int)(make:Value)(w:WD)(K:KV)(h:vcP134 n make w K):Ret 134 #[vi n,make] w K:=vcA L9 2 [2000011] func134 h
def vcP144(n:Int)(make:Value)(w:WD)(K:KV):Prop:=∃(I:OA->Nat->Nat->Int->WD->Nat->Prop),(∃(n:Nat),I none 0 0 0 w n)/\∀(a:OA) (l c:Nat) (b:Int) (w':WD) (f:Nat),I a l c b w' f->Wif (decide (b<n)) (AN prog make [vi b] w' λe w'=>∃(g:OA) (h c_1:Nat),e=rT (sl g h c_1)/\AW w' #[sl g h c_1] 51 λk=>∃(i:OA) (j c_2:Nat) (d:WD),BL prog #[135,135] 135 (sl a l c) (sl (aD w'.heap.size) 1 1) (sl i j c_2) k d/\Lt f λm=>I i j c_2 (wrap .i64 (b+1)) d m) (K (sl a l c) w')
theorem vc144(n:Int)(make:Value)(w:WD)(K:KV)(h:vcP144 n make w K):Ret 144 #[vi n,make] w K:=vcA L9 2 [2000011] func144 h
theorem vc172(c0:NI)(w:WD)(K:KV)(h:Q (AW w (List.toArray (AQ .i64 c0 0 94)) 26 λw'=>∃(x:NI),BB w' w.heap.size 0 (AQ .i64 x 0 94)/\CB 60 #[agg (List.toArray (AQ .i64 x 0 94))] w' λb w'=>Wif (!b) (K (vi 0) w') (∃(x:NI),BB w' w.heap.size 18 (AQ .i64 x 0 8)/\∃(I:Int->Int->WD->Nat->Prop),(∃(n:Nat),I 0 0 w' n)/\∀(n a:Int) (w':WD) (c:Nat),I n a w' c->Wif (decide (a<8)) (Wn a 8 (∃(d:Int),[vi (x 0),vi (x 1),vi (x 2),vi (x 3),vi (x 4),vi (x 5),vi (x 6),vi (x 7)][a.toNat*1]? = some (.int .i64 d)/\Lt c λm=>I (wrap .i64 (n+d)) (wrap .i64 (a+1)) w' m)) (K (vi n) w')))):Ret 172 #[agg (List.toArray (AQ .i64 c0 0 94))] w K:=vcA L9 2 [] func172 h
theorem vc173(x:OA)(xL xC:Nat)(count:Int)(w:WD)(K:KV)(h:Q (Wif (decide (count<0)) False (Calls prog 229 #[int .u64 (wrap .u64 (↑xL:Int)),int .u64 (wrap .u64 count)] w λe w'=>∃(n a:Int),e=rT (.tuple #[int .u64 n,int .u64 a])/\Wif (decide (n>0)||decide (a>9223372036854775807)) False (Wif (IU 40 (wrap .i64 a) (wrap .i64 a)) (AW w' (DO #[vu 0,vi 0,vi 0,vi 0,vi 0] 5 (Int.toNat (wrap .i64 a))) 86 λh=>∃(n:Int) (d:WD),QX prog #[130,130] 3 (sl (aD w'.heap.size) (Int.toNat (wrap .i64 a)) (Int.toNat (wrap .i64 a))) (sl x xL xC) (vi n) h d/\∃(I:Int->WD->Nat->Prop),(∃(c:Nat),I n d c)/\∀(n:Int) (b:WD) (c:Nat),I n b c->Wif (decide (n<(↑(Int.toNat (wrap .i64 a)):Int))) (Dr b λi=>Wif (CZ n (↑(Int.toNat (wrap .i64 a)):Int) (↑(Int.toNat (wrap .i64 a)):Int)) (Wif (CZ 0 n (↑(Int.toNat (wrap .i64 a)):Int)) (∃(g:Int) (f:WD),QX prog #[130,130] 3 (sl (BS (aD w'.heap.size) (Int.toNat (wrap .i64 a)) (n.toNat) 5) (Int.toNat (wrap .i64 a)-n.toNat) (Int.toNat (wrap .i64 a)-n.toNat)) (sl (aD w'.heap.size) (n.toNat) (Int.toNat (wrap .i64 a))) (vi g) i f/\Lt c λm=>I (wrap .i64 (n+g)) f m) False) False) (K (sl (aD w'.heap.size) (Int.toNat (wrap .i64 a)) (Int.toNat (wrap .i64 a))) b)) False)))):Ret 173 #[sl x xL xC,vi count] w K:=vcA L9 2 [] func173 h
theorem vc175(b:OA)(bL bC:Nat)(size colour:Int)(w:WD)(K:KV)(h:Q (gIf (size != 0) (((↑bL:Int)!=256||decide (size<8)||decide (size>128)||Int.tmod size 8 != 0||decide (colour<0)||Int.tmod colour 8 != 0)=false) (Wif ((↑bL:Int)!=256||decide (size<8)||decide (size>128)||Int.tmod size 8 != 0||decide (colour<0)||Int.tmod colour 8 != 0||decide (colour>Int.tmod 256 size)) (K (.tuple #[pt none,vi 2]) w) (Wif (size != 0) (AW w (List.toArray ([sl b bL bC,vi size,vi colour,vi (wrap .i64 (Int.tdiv (wrap .i64 (256-colour)) size)),vu 255,vi 0]++(replicate 32 (bool false)++replicate 32 (int .u64 0)))) 355 λw'=>RI w' w.heap.size 3 λx=>∃(I:Int->WD->Nat->Prop),(∃(n:Nat),I (wrap .i64 (x-1)) w' n)/\∀(n:Int) (w':WD) (a:Nat),I n w' a->Wif (decide (n>=0)) (C0 230 #[AP w.heap.size,vi n] w' λw'=>Lt a λm=>I (wrap .i64 (n-1)) w' m) (K (.tuple #[AP w.heap.size,vi 0]) w')) False)))):Ret 175 #[sl b bL bC,vi size,vi colour] w K:=vcA L9 2 [] func175 h
theorem vc229(x y:Int)(w:WD)(K:KV)(h:Q (Calls prog 269 #[int .u64 x,int .u64 y] w λe w'=>∃(n a:Int),e=rT (.tuple #[int .u64 n,int .u64 a])/\K (.tuple #[int .u64 n,int .u64 a]) w')):Ret 229 #[int .u64 x,int .u64 y] w K:=vcA L7 2 [] func229 h
theorem vc230(s:OA)(i:Int)(w:WD)(K:KV)(h:Q (Dr w λa=>Wp s (Rs a s 0 λx f h=>Wp s (Ri a s 2 λc=>Wp s (Ri a s 1 λd=>Wp s (Re a s 4 λg=>Wp x (Wn (wrap .i64 (c+wrap .i64 (i*d))) f (Sw a (pb x) (po x+Int.toNat (wrap .i64 (c+wrap .i64 (i*d)))*1) (vu g) λw'=>Wp s (Sw w' (pb s) (po s+4) (vu (wrap .u8 i)) λb=>Wp s (Ri b s 5 λx=>Wp s (Sw b (pb s) (po s+5) (vi (wrap .i64 (x+1))) λw'=>K (.tuple #[]) w'))))))))))):Ret 230 #[pt s,vi i] w K:=vcA L7 2 [] func230 h
theorem vc269(x y:Int)(w:WD)(K:KV)(h:Q (K (.tuple #[int .u64 (wrap .u64 (wrap .u64 (wrap .u64 (Int.fdiv x 4294967296*Int.fdiv y 4294967296)+Int.fdiv (wrap .u64 (wrap .u64 (Int.fdiv x 4294967296*CD BinOp.and IntKind.u64 y 4294967295)+Int.fdiv (wrap .u64 (CD BinOp.and IntKind.u64 x 4294967295*CD BinOp.and IntKind.u64 y 4294967295)) 4294967296)) 4294967296)+Int.fdiv (wrap .u64 (CD BinOp.and IntKind.u64 (wrap .u64 (wrap .u64 (Int.fdiv x 4294967296*CD BinOp.and IntKind.u64 y 4294967295)+Int.fdiv (wrap .u64 (CD BinOp.and IntKind.u64 x 4294967295*CD BinOp.and IntKind.u64 y 4294967295)) 4294967296)) 4294967295+wrap .u64 (CD BinOp.and IntKind.u64 x 4294967295*Int.fdiv y 4294967296))) 4294967296)),int .u64 (wrap .u64 (x*y))]) w)):Ret 269 #[int .u64 x,int .u64 y] w K:=vcA L7 2 [] func269 h
end Go.Proofs.YtdgbechegbmpcaaGreatDoor
namespace Go.Eng
open Go
structure At(F:NP)(φ:WD->Prop)(w:WD):Prop where
 lt:∀x,F x->x<w.heap.size
 go:∀w',AB (λb=>¬F b) w w'->φ w'
theorem At.now{F:NP}{φ:WD->Prop}{w:WD}(h:At F φ w):φ w:=h.go w kr
theorem At.kx{F X:NP}{φ:WD->Prop}{w w':WD}(h:At F φ w)(k:AB X w w')(hx:∀x,X x->F x->False):At F φ w':=
 ⟨λx hx=>nll (h.lt x hx) k.sz,λw'' k2=>h.go w'' ((k.AE λb _ hb hf=>hx b hb hf).trans k2 λ_ _ h=>h)⟩
theorem At.AE{F G:NP}{φ:WD->Prop}{w:WD}(h:At F φ w)(hf:∀x,F x->G x)(hg:∀x,G x->x<w.heap.size):At G φ w:=
 ⟨hg,λw' k=>h.go w' (k.AE λb _ hb hx=>hb (hf b hx))⟩
theorem At.imp{F:NP}{φ ψ:WD->Prop}{w:WD}(h:At F φ w)(hi:∀w',φ w'->ψ w'):At F ψ w:=⟨h.lt,λw' k=>hi w' (h.go w' k)⟩
theorem At.and{F G:NP}{φ ψ:WD->Prop}{w:WD}(h:At F φ w)(h2:At G ψ w):At (λx=>F x\/G x) (λw=>φ w/\ψ w) w:=
 ⟨λx hx=>hx.elim (h.lt x) (h2.lt x),λw' k=>⟨h.go w' (k.AE λb _ hb hx=>hb (.inl hx)),h2.go w' (k.AE λb _ hb hx=>hb (.inr hx))⟩⟩
def rng(w w':WD):NP:=λx=>w.heap.size<=x/\x<w'.heap.size
theorem FQ{s:Nat}{n:Int}(h0:0<=n:=by omega)(h:(s:Int)*n<=281474976710656:=by omega)(h2:n<=9223372036854775807:=by omega):IU s n n=true:=by simp [IU];omega
structure ElT(P:Program)(S T:TypeId)(s:Nat):Prop where
 sl:P.underlying S=some (.slice T)
 ex:∃(i:TypeInfo) (z:Value),P.info? T=some i/\i.zero=some z/\i.size=s/\z.cells.size=s/\i.bytes<=1000
 pos:0<s
structure HW(P:Program)(mk:Value)(n s:Nat)(w0:WD)(R:Ending->List Value->Prop)(J:(NP)->Nat->List Value->WD->Prop):Prop where
 st:∀F i vs w w' X,J F i vs w->AB X w w'->(∀x,X x->F x->False)->J F i vs w'
 run:∀F i vs w,i<n->J F i vs w->AB AD w0 w->(∀x,F x->w0.heap.size<=x/\x<w.heap.size)->AN P mk [.int .i64 i] w λe w'=>∃cs:List Value,R e cs/\cs.length=s/\(∀u∈cs,u.oneCell'=true)/\AB AD w w'/\J (λx=>F x\/rng w w' x) (i+1) (vs++cs) w'
theorem AT{P:Program}{v:Value}{args:List Value}{w:WD}{R R':Ending->WD->Prop}(h:AN P v args w R)(hr:∀e w',R e w'->R' e w'):AN P v args w R':=by
 obtain⟨f,a,c,h1,h2,h3⟩:=h;exact⟨f,a,c,h1,h2,h3.AE hr⟩
def SevP(P:Program)(S T:TypeId)(R:Ending->List Value->Prop)(n:Int)(mk:Value)(w:WD)(K:Value->WD->Prop):Prop:=
 ∃(I:Option Addr->Nat->Nat->Int->WD->Nat->Prop),(∃(n:Nat),I none 0 0 0 w n)/\
  ∀(a:Option Addr) (l c:Nat) (n_1:Int) (w':WD) (n_2:Nat),I a l c n_1 w' n_2->
   Wif (decide (n_1<n))
    (AN P mk [Value.int IntKind.i64 n_1] w' λ(e:Ending) (w':WD)=>∃cs:List Value,R e cs/\
     ∀(w1:WD),w1=World.alloc w' (Obj.cells cs.toArray T)->∃(a_1:Option Addr) (l_1 c_1:Nat) (w2:WD),
      BL P #[S,S] S (Value.slice a l c) (Value.slice (some (Addr.mk (Array.size (World.heap w')) 0 none)) 1 1) (Value.slice a_1 l_1 c_1) w1 w2/\
       ∃(m:Nat),Nat.succ m<=n_2/\I a_1 l_1 c_1 (IntKind.wrap IntKind.i64 (n_1+1)) w2 m)
    (K (Value.slice a l c) w')
def OF(T:TypeId)(s:Nat)(J:(NP)->Nat->List Value->WD->Prop)(n:Nat)(w0:WD)(v:Value)(w':WD):Prop:=
 ∃(a:Option Addr) (c:Nat) (F:NP) (vs:List Value),v=.slice a n c/\AB AD w0 w'/\w'.ownsRow w0.heap.size T s (.slice a n c) n vs/\J F n vs w'/\
  (∀x,F x->w0.heap.size<=x/\x<w'.heap.size)/\∀g,(Value.slice a n c).ownBlock=some g->¬F g
theorem FO{P:Program}{S T:TypeId}{s:Nat}(hT:ElT P S T s){R:Ending->List Value->Prop}{n:Nat}(hn:n<=1000000){mk:Value}{w0:WD}{J:(NP)->Nat->List Value->WD->Prop}(hm:HW P mk n s w0 R J)(h0:J (λ_=>False) 0 [] w0) :
 SevP P S T R n mk w0 (OF T s J n w0):=by
 obtain⟨i,z,hi,hz,hsz,hzs,hby⟩:=hT.ex;refine⟨λa l c k w' m=>∃(q:Nat) (F:NP) (vs:List Value),k=q/\q=l/\q<=n/\m=n-q/\AB AD w0 w'/\w'.ownsRow w0.heap.size T s (.slice a q c) q vs/\J F q vs w'/\
  (∀x,F x->w0.heap.size<=x/\x<w'.heap.size)/\∀g,(Value.slice a q c).ownBlock=some g->¬F g,
  ⟨n,0,λ_=>False,[],rfl,rfl,Nat.zero_le _,rfl,AB.refl _ _,World.ownsRow_nil _ _ _ _,h0,λx hx=>hx.elim,λg _ hx=>hx⟩,?_⟩
 rintro a l c _ w1 _ ⟨q,F,vs,rfl,e0,hq,rfl,k1,row1,j1,f1,g1⟩;subst e0;refine AH (λhc=>?_) (λhc=>?_)
 .have hqn:q<n:=by simp at hc;omega
  refine AT (hm.run F q vs w1 hqn j1 k1 f1) ?_;rintro e w2 ⟨cs,hR,hlen,hone,k2,j2⟩;refine⟨cs,hR,λw3 e3=>?_⟩;have k3:=kal e3;have row3:=BA row1 (k2.tr k3) (λ_ _ _ _=>id);have hs1:=k1.sz;have hs2:=k2.sz;have hs3:=k3.sz;obtain⟨a',l',c',w4,happ,rfl,row4,k4,hb4⟩:=JP (P:=P) (t:=S) (e:=T) (i:=i) (z:=z) (size:=s) hT.sl hi hz hsz hzs hT.pos row3 (AG e3) (m:=1) (off:=0) (c:=1) (news:=cs) (by simp [List.take_of_length_le (Nat.le_of_eq hlen)]) (by omega) hone (by omega) hby (by omega);have f2:∀x,(F x\/rng w1 w2 x)->w0.heap.size<=x/\x<w2.heap.size:=λx hx=>hx.elim (λh=>⟨(f1 x h).1,by have:=(f1 x h).2;omega⟩) (λh=>⟨by have:=h.1;omega,h.2⟩);have g2:∀g,(Value.slice a q c).ownBlock=some g->¬(F g\/rng w1 w2 g):=λg hg hx=>hx.elim (g1 g hg) λh=>by have:=(row1.lt g hg).2;have:=h.1;omega
  refine⟨a',_,c',w4,happ,n-(q+1),by omega,q+1,_,_,wzz,rfl,hqn,rfl,?_,row4,hm.st _ _ _ _ _ _ (hm.st _ _ _ _ _ _ j2 k3 λ_ e=>e.elim) k4 (λx e hx=>g2 x e hx),λx hx=>⟨(f2 x hx).1,?_⟩,λg hg hx=>?_⟩
  .exact((k1.tr k2).tr k3).trans k4 λb hb e=>by have:=(row1.lt b e).1;omega
  .have:=(f2 x hx).2;have:=k4.sz;omega
  .rcases hb4 with e|e
   .rw [e] at hg;exact g2 g hg hx
   .have:=e g hg;have:=(f2 g hx).2;omega
 .have:q=n:=by simp at hc;omega
  subst this;exact⟨a,c,F,vs,rfl,k1,row1,j1,f1,g1⟩
theorem DS{b:Bool}{x y x' y':Prop}(h:Wif b x y)(hx:x->x')(hy:y->y'):Wif b x' y':=by
 cases b
 .exact hy h
 .exact hx h
end Go.Eng
namespace Go.Proofs.YtdgbechegbmpcaaGreatDoor
open Go Go.Eng Go.Proofs.Tryz
open Go.Value (bool func slice agg int)
open Option (isNone)
open Go.IntKind (wrap)
open List (replicate range)
variable {mk z:Value}{s:Nat}{w0:WD}{c:NI}
def C3w(e:Ending)(cs:List Value):Prop:=∃p:OA,e=.returned (.pointer p)/\cs=[.pointer p]
def RSl(e:Ending)(cs:List Value):Prop:=∃(a:OA) (l c:Nat),e=.returned (.slice a l c)/\cs=[.slice a l c]
def RU64(e:Ending)(cs:List Value):Prop:=∃x:Int,e=.returned (.int .u64 x)/\cs=[.int .u64 x]
def RI64(e:Ending)(cs:List Value):Prop:=∃x:Int,e=.returned (.int .i64 x)/\cs=[.int .i64 x]
def RMk(e:Ending)(cs:List Value):Prop:=∃x0 x1 x2 x3 x4:Int,e=.returned (.agg #[.int .u8 x0,.int .i64 x1,.int .i64 x2,.int .i64 x3,.int .i64 x4])/\cs=[.int .u8 x0,.int .i64 x1,.int .i64 x2,.int .i64 x3,.int .i64 x4]
theorem elT{S T:TypeId}(hs:prog.underlying S=some (.slice T))(h:(prog.info? T).map (λi=>(i.zero,i.size,decide (i.bytes<=1000)))=some (some z,s,true))(hz:z.cells.size=s)(h0:0<s):ElT prog S T s:=by
 cases hi:prog.info? T with
 | none=>rw [hi] at h;cases h
 | some i=>
  rw [hi] at h;simp at h;exact⟨hs,⟨i,z,hi,h.1,h.2.1,hz,h.2.2⟩,h0⟩
theorem C5b:ElT prog 43 174 1:=elT (z:=.pointer none) underlying43 (by kernel_rfl) rfl (by decide)
theorem C4i{n:Nat}(hn:n<=1000000){J:(NP)->Nat->List Value->WD->Prop}(hm:HW prog mk n 1 w0 C3w J)(h0:J (λ_=>False) 0 [] w0) :
 Calls prog 68 #[.int .i64 n,mk] w0 λe w'=>∃(a:OA) (c:Nat) (F:NP) (vs:List Value),e=.returned (.slice a n c)/\AB AD w0 w'/\w'.ownsRow w0.heap.size 174 1 (.slice a n c) n vs/\J F n vs w'/\
  (∀x,F x->w0.heap.size<=x/\x<w'.heap.size)/\∀g,(slice a n c).ownBlock=some g->¬F g:=by
 obtain⟨I,i0,i1⟩:=FO C5b hn hm h0;have hv:vcP68 n mk w0 (OF 174 1 J n w0):=⟨I,i0,λa l c k w' m hi=>DS (i1 a l c k w' m hi) (λhc=>AT hc λe w2 ⟨cs,⟨p,he,hcs⟩,hx⟩=>⟨p,he,by subst hcs;exact hx⟩) id⟩;refine(vc68 n mk w0 _ hv).AE ?_;rintro e w' ⟨v,rfl,a,c,F,vs,rfl,h⟩;exact⟨a,c,F,vs,rfl,h⟩
theorem C49:ElT prog 178 180 1:=elT (z:=.pointer none) underlying178 (by kernel_rfl) rfl (by decide)
theorem C4g{n:Nat}(hn:n<=1000000){J:(NP)->Nat->List Value->WD->Prop}(hm:HW prog mk n 1 w0 C3w J)(h0:J (λ_=>False) 0 [] w0) :
 Calls prog 73 #[.int .i64 n,mk] w0 λe w'=>∃(a:OA) (c:Nat) (F:NP) (vs:List Value),e=.returned (.slice a n c)/\AB AD w0 w'/\w'.ownsRow w0.heap.size 180 1 (.slice a n c) n vs/\J F n vs w'/\
  (∀x,F x->w0.heap.size<=x/\x<w'.heap.size)/\∀g,(slice a n c).ownBlock=some g->¬F g:=by
 obtain⟨I,i0,i1⟩:=FO C49 hn hm h0;have hv:vcP73 n mk w0 (OF 180 1 J n w0):=⟨I,i0,λa l c k w' m hi=>DS (i1 a l c k w' m hi) (λhc=>AT hc λe w2 ⟨cs,⟨p,he,hcs⟩,hx⟩=>⟨p,he,by subst hcs;exact hx⟩) id⟩;refine(vc73 n mk w0 _ hv).AE ?_;rintro e w' ⟨v,rfl,a,c,F,vs,rfl,h⟩;exact⟨a,c,F,vs,rfl,h⟩
theorem C47:ElT prog 186 188 1:=elT (z:=.pointer none) underlying186 (by kernel_rfl) rfl (by decide)
theorem C4e{n:Nat}(hn:n<=1000000){J:(NP)->Nat->List Value->WD->Prop}(hm:HW prog mk n 1 w0 C3w J)(h0:J (λ_=>False) 0 [] w0) :
 Calls prog 78 #[.int .i64 n,mk] w0 λe w'=>∃(a:OA) (c:Nat) (F:NP) (vs:List Value),e=.returned (.slice a n c)/\AB AD w0 w'/\w'.ownsRow w0.heap.size 188 1 (.slice a n c) n vs/\J F n vs w'/\
  (∀x,F x->w0.heap.size<=x/\x<w'.heap.size)/\∀g,(slice a n c).ownBlock=some g->¬F g:=by
 obtain⟨I,i0,i1⟩:=FO C47 hn hm h0;have hv:vcP78 n mk w0 (OF 188 1 J n w0):=⟨I,i0,λa l c k w' m hi=>DS (i1 a l c k w' m hi) (λhc=>AT hc λe w2 ⟨cs,⟨p,he,hcs⟩,hx⟩=>⟨p,he,by subst hcs;exact hx⟩) id⟩;refine(vc78 n mk w0 _ hv).AE ?_;rintro e w' ⟨v,rfl,a,c,F,vs,rfl,h⟩;exact⟨a,c,F,vs,rfl,h⟩
theorem C45:ElT prog 192 194 1:=elT (z:=.pointer none) underlying192 (by kernel_rfl) rfl (by decide)
theorem C4c{n:Nat}(hn:n<=1000000){J:(NP)->Nat->List Value->WD->Prop}(hm:HW prog mk n 1 w0 C3w J)(h0:J (λ_=>False) 0 [] w0) :
 Calls prog 83 #[.int .i64 n,mk] w0 λe w'=>∃(a:OA) (c:Nat) (F:NP) (vs:List Value),e=.returned (.slice a n c)/\AB AD w0 w'/\w'.ownsRow w0.heap.size 194 1 (.slice a n c) n vs/\J F n vs w'/\
  (∀x,F x->w0.heap.size<=x/\x<w'.heap.size)/\∀g,(slice a n c).ownBlock=some g->¬F g:=by
 obtain⟨I,i0,i1⟩:=FO C45 hn hm h0;have hv:vcP83 n mk w0 (OF 194 1 J n w0):=⟨I,i0,λa l c k w' m hi=>DS (i1 a l c k w' m hi) (λhc=>AT hc λe w2 ⟨cs,⟨p,he,hcs⟩,hx⟩=>⟨p,he,by subst hcs;exact hx⟩) id⟩;refine(vc83 n mk w0 _ hv).AE ?_;rintro e w' ⟨v,rfl,a,c,F,vs,rfl,h⟩;exact⟨a,c,F,vs,rfl,h⟩
theorem C5a:ElT prog 44 178 1:=elT (z:=.slice none 0 0) underlying44 (by kernel_rfl) rfl (by decide)
theorem C4h{n:Nat}(hn:n<=1000000){J:(NP)->Nat->List Value->WD->Prop}(hm:HW prog mk n 1 w0 RSl J)(h0:J (λ_=>False) 0 [] w0) :
 Calls prog 71 #[.int .i64 n,mk] w0 λe w'=>∃(a:OA) (c:Nat) (F:NP) (vs:List Value),e=.returned (.slice a n c)/\AB AD w0 w'/\w'.ownsRow w0.heap.size 178 1 (.slice a n c) n vs/\J F n vs w'/\
  (∀x,F x->w0.heap.size<=x/\x<w'.heap.size)/\∀g,(slice a n c).ownBlock=some g->¬F g:=by
 obtain⟨I,i0,i1⟩:=FO C5a hn hm h0;have hv:vcP71 n mk w0 (OF 178 1 J n w0):=⟨I,i0,λa l c k w' m hi=>DS (i1 a l c k w' m hi) (λhc=>AT hc λe w2 ⟨cs,⟨a1,l1,c1,he,hcs⟩,hx⟩=>⟨a1,l1,c1,he,by subst hcs;exact hx⟩) id⟩;refine(vc71 n mk w0 _ hv).AE ?_;rintro e w' ⟨v,rfl,a,c,F,vs,rfl,h⟩;exact⟨a,c,F,vs,rfl,h⟩
theorem C48:ElT prog 45 186 1:=elT (z:=.slice none 0 0) underlying45 (by kernel_rfl) rfl (by decide)
theorem C4f{n:Nat}(hn:n<=1000000){J:(NP)->Nat->List Value->WD->Prop}(hm:HW prog mk n 1 w0 RSl J)(h0:J (λ_=>False) 0 [] w0) :
 Calls prog 76 #[.int .i64 n,mk] w0 λe w'=>∃(a:OA) (c:Nat) (F:NP) (vs:List Value),e=.returned (.slice a n c)/\AB AD w0 w'/\w'.ownsRow w0.heap.size 186 1 (.slice a n c) n vs/\J F n vs w'/\
  (∀x,F x->w0.heap.size<=x/\x<w'.heap.size)/\∀g,(slice a n c).ownBlock=some g->¬F g:=by
 obtain⟨I,i0,i1⟩:=FO C48 hn hm h0;have hv:vcP76 n mk w0 (OF 186 1 J n w0):=⟨I,i0,λa l c k w' m hi=>DS (i1 a l c k w' m hi) (λhc=>AT hc λe w2 ⟨cs,⟨a1,l1,c1,he,hcs⟩,hx⟩=>⟨a1,l1,c1,he,by subst hcs;exact hx⟩) id⟩;refine(vc76 n mk w0 _ hv).AE ?_;rintro e w' ⟨v,rfl,a,c,F,vs,rfl,h⟩;exact⟨a,c,F,vs,rfl,h⟩
theorem C46:ElT prog 46 192 1:=elT (z:=.slice none 0 0) underlying46 (by kernel_rfl) rfl (by decide)
theorem C4d{n:Nat}(hn:n<=1000000){J:(NP)->Nat->List Value->WD->Prop}(hm:HW prog mk n 1 w0 RSl J)(h0:J (λ_=>False) 0 [] w0) :
 Calls prog 81 #[.int .i64 n,mk] w0 λe w'=>∃(a:OA) (c:Nat) (F:NP) (vs:List Value),e=.returned (.slice a n c)/\AB AD w0 w'/\w'.ownsRow w0.heap.size 192 1 (.slice a n c) n vs/\J F n vs w'/\
  (∀x,F x->w0.heap.size<=x/\x<w'.heap.size)/\∀g,(slice a n c).ownBlock=some g->¬F g:=by
 obtain⟨I,i0,i1⟩:=FO C46 hn hm h0;have hv:vcP81 n mk w0 (OF 192 1 J n w0):=⟨I,i0,λa l c k w' m hi=>DS (i1 a l c k w' m hi) (λhc=>AT hc λe w2 ⟨cs,⟨a1,l1,c1,he,hcs⟩,hx⟩=>⟨a1,l1,c1,he,by subst hcs;exact hx⟩) id⟩;refine(vc81 n mk w0 _ hv).AE ?_;rintro e w' ⟨v,rfl,a,c,F,vs,rfl,h⟩;exact⟨a,c,F,vs,rfl,h⟩
theorem C42:ElT prog 50 27 1:=elT (z:=.slice none 0 0) underlying50 (by kernel_rfl) rfl (by decide)
theorem C0o{n:Nat}(hn:n<=1000000){J:(NP)->Nat->List Value->WD->Prop}(hm:HW prog mk n 1 w0 RSl J)(h0:J (λ_=>False) 0 [] w0) :
 Calls prog 131 #[.int .i64 n,mk] w0 λe w'=>∃(a:OA) (c:Nat) (F:NP) (vs:List Value),e=.returned (.slice a n c)/\AB AD w0 w'/\w'.ownsRow w0.heap.size 27 1 (.slice a n c) n vs/\J F n vs w'/\
  (∀x,F x->w0.heap.size<=x/\x<w'.heap.size)/\∀g,(slice a n c).ownBlock=some g->¬F g:=by
 obtain⟨I,i0,i1⟩:=FO C42 hn hm h0;have hv:vcP131 n mk w0 (OF 27 1 J n w0):=⟨I,i0,λa l c k w' m hi=>DS (i1 a l c k w' m hi) (λhc=>AT hc λe w2 ⟨cs,⟨a1,l1,c1,he,hcs⟩,hx⟩=>⟨a1,l1,c1,he,by subst hcs;exact hx⟩) id⟩;refine(vc131 n mk w0 _ hv).AE ?_;rintro e w' ⟨v,rfl,a,c,F,vs,rfl,h⟩;exact⟨a,c,F,vs,rfl,h⟩
theorem C19:ElT prog 51 239 1:=elT (z:=.slice none 0 0) underlying51 (by kernel_rfl) rfl (by decide)
theorem B7z{n:Nat}(hn:n<=1000000){J:(NP)->Nat->List Value->WD->Prop}(hm:HW prog mk n 1 w0 RSl J)(h0:J (λ_=>False) 0 [] w0) :
 Calls prog 134 #[.int .i64 n,mk] w0 λe w'=>∃(a:OA) (c:Nat) (F:NP) (vs:List Value),e=.returned (.slice a n c)/\AB AD w0 w'/\w'.ownsRow w0.heap.size 239 1 (.slice a n c) n vs/\J F n vs w'/\
  (∀x,F x->w0.heap.size<=x/\x<w'.heap.size)/\∀g,(slice a n c).ownBlock=some g->¬F g:=by
 obtain⟨I,i0,i1⟩:=FO C19 hn hm h0;have hv:vcP134 n mk w0 (OF 239 1 J n w0):=⟨I,i0,λa l c k w' m hi=>DS (i1 a l c k w' m hi) (λhc=>AT hc λe w2 ⟨cs,⟨a1,l1,c1,he,hcs⟩,hx⟩=>⟨a1,l1,c1,he,by subst hcs;exact hx⟩) id⟩;refine(vc134 n mk w0 _ hv).AE ?_;rintro e w' ⟨v,rfl,a,c,F,vs,rfl,h⟩;exact⟨a,c,F,vs,rfl,h⟩
theorem C41:ElT prog 135 51 1:=elT (z:=.slice none 0 0) underlying135 (by kernel_rfl) rfl (by decide)
theorem C0n{n:Nat}(hn:n<=1000000){J:(NP)->Nat->List Value->WD->Prop}(hm:HW prog mk n 1 w0 RSl J)(h0:J (λ_=>False) 0 [] w0) :
 Calls prog 144 #[.int .i64 n,mk] w0 λe w'=>∃(a:OA) (c:Nat) (F:NP) (vs:List Value),e=.returned (.slice a n c)/\AB AD w0 w'/\w'.ownsRow w0.heap.size 51 1 (.slice a n c) n vs/\J F n vs w'/\
  (∀x,F x->w0.heap.size<=x/\x<w'.heap.size)/\∀g,(slice a n c).ownBlock=some g->¬F g:=by
 obtain⟨I,i0,i1⟩:=FO C41 hn hm h0;have hv:vcP144 n mk w0 (OF 51 1 J n w0):=⟨I,i0,λa l c k w' m hi=>DS (i1 a l c k w' m hi) (λhc=>AT hc λe w2 ⟨cs,⟨a1,l1,c1,he,hcs⟩,hx⟩=>⟨a1,l1,c1,he,by subst hcs;exact hx⟩) id⟩;refine(vc144 n mk w0 _ hv).AE ?_;rintro e w' ⟨v,rfl,a,c,F,vs,rfl,h⟩;exact⟨a,c,F,vs,rfl,h⟩
theorem C44:ElT prog 47 76 1:=elT (z:=.int .u64 0) underlying47 (by kernel_rfl) rfl (by decide)
theorem C4b{n:Nat}(hn:n<=1000000){J:(NP)->Nat->List Value->WD->Prop}(hm:HW prog mk n 1 w0 RU64 J)(h0:J (λ_=>False) 0 [] w0) :
 Calls prog 86 #[.int .i64 n,mk] w0 λe w'=>∃(a:OA) (c:Nat) (F:NP) (vs:List Value),e=.returned (.slice a n c)/\AB AD w0 w'/\w'.ownsRow w0.heap.size 76 1 (.slice a n c) n vs/\J F n vs w'/\
  (∀x,F x->w0.heap.size<=x/\x<w'.heap.size)/\∀g,(slice a n c).ownBlock=some g->¬F g:=by
 obtain⟨I,i0,i1⟩:=FO C44 hn hm h0;have hv:vcP86 n mk w0 (OF 76 1 J n w0):=⟨I,i0,λa l c k w' m hi=>DS (i1 a l c k w' m hi) (λhc=>AT hc λe w2 ⟨cs,⟨x,he,hcs⟩,hx⟩=>⟨x,he,by subst hcs;exact hx⟩) id⟩;refine(vc86 n mk w0 _ hv).AE ?_;rintro e w' ⟨v,rfl,a,c,F,vs,rfl,h⟩;exact⟨a,c,F,vs,rfl,h⟩
theorem B55:ElT prog 27 3 1:=elT (z:=.int .i64 0) underlying27 (by kernel_rfl) rfl (by decide)
theorem C0p{n:Nat}(hn:n<=1000000){J:(NP)->Nat->List Value->WD->Prop}(hm:HW prog mk n 1 w0 RI64 J)(h0:J (λ_=>False) 0 [] w0) :
 Calls prog 88 #[.int .i64 n,mk] w0 λe w'=>∃(a:OA) (c:Nat) (F:NP) (vs:List Value),e=.returned (.slice a n c)/\AB AD w0 w'/\w'.ownsRow w0.heap.size 3 1 (.slice a n c) n vs/\J F n vs w'/\
  (∀x,F x->w0.heap.size<=x/\x<w'.heap.size)/\∀g,(slice a n c).ownBlock=some g->¬F g:=by
 obtain⟨I,i0,i1⟩:=FO B55 hn hm h0;have hv:vcP88 n mk w0 (OF 3 1 J n w0):=⟨I,i0,λa l c k w' m hi=>DS (i1 a l c k w' m hi) (λhc=>AT hc λe w2 ⟨cs,⟨x,he,hcs⟩,hx⟩=>⟨x,he,by subst hcs;exact hx⟩) id⟩;refine(vc88 n mk w0 _ hv).AE ?_;rintro e w' ⟨v,rfl,a,c,F,vs,rfl,h⟩;exact⟨a,c,F,vs,rfl,h⟩
theorem C43:ElT prog 130 86 5:=elT (z:=.agg #[.int .u8 0,.int .i64 0,.int .i64 0,.int .i64 0,.int .i64 0]) underlying130 (by kernel_rfl) rfl (by decide)
theorem C4a{n:Nat}(hn:n<=1000000){J:(NP)->Nat->List Value->WD->Prop}(hm:HW prog mk n 5 w0 RMk J)(h0:J (λ_=>False) 0 [] w0) :
 Calls prog 127 #[.int .i64 n,mk] w0 λe w'=>∃(a:OA) (c:Nat) (F:NP) (vs:List Value),e=.returned (.slice a n c)/\AB AD w0 w'/\w'.ownsRow w0.heap.size 86 5 (.slice a n c) n vs/\J F n vs w'/\
  (∀x,F x->w0.heap.size<=x/\x<w'.heap.size)/\∀g,(slice a n c).ownBlock=some g->¬F g:=by
 obtain⟨I,i0,i1⟩:=FO C43 hn hm h0;have hv:vcP127 n mk w0 (OF 86 5 J n w0):=⟨I,i0,λa l c k w' m hi=>DS (i1 a l c k w' m hi) (λhc=>AT hc λe w2 ⟨cs,⟨x0,x1,x2,x3,x4,he,hcs⟩,hx⟩=>⟨x0,x1,x2,x3,x4,he,by subst hcs;exact hx⟩) id⟩;refine(vc127 n mk w0 _ hv).AE ?_;rintro e w' ⟨v,rfl,a,c,F,vs,rfl,h⟩;exact⟨a,c,F,vs,rfl,h⟩
theorem vc170(c0:NI)(w:WD)(K:KV)(h:Q (AW w (List.toArray (AQ .i64 c0 0 94)) 26 λw'=>AW w' (List.toArray (replicate 94 (vi 0))) 26 λf=>RI f w.heap.size 1 λx=>Wif (CZ x 16 16) (∃(c:WD),JS prog #[27] 0 (sl (BS (some (Addr.mk w.heap.size 2 none)) 16 (x.toNat) 1) (16-x.toNat) (16-x.toNat)) f c/\RI c w.heap.size 0 λx=>Wif (CZ x 8 8) (∃(g:WD),JS prog #[27] 0 (sl (BS (some (Addr.mk w.heap.size 18 none)) 8 (x.toNat) 1) (8-x.toNat) (8-x.toNat)) c g/\∃(I:Int->WD->Nat->Prop),(∃(n:Nat),I 0 g n)/\∀(n:Int) (a:WD) (h:Nat),I n a h->Wif (decide (n<8)) (Dr a λi=>Wn n 8 (RI i w.heap.size 0 λx=>Wif (CZ x 8 8) (∃(w':WD),JS prog #[27] 0 (sl (BS (some (Addr.mk w.heap.size (26+n.toNat*8) none)) 8 (x.toNat) 1) (8-x.toNat) (8-x.toNat)) i w'/\Lt h λm=>I (wrap .i64 (n+1)) w' m) False)) (RI a w.heap.size 0 λx=>Wif (CZ x 8 8) (∃(b:WD),JS prog #[350] 0 (sl (BS (some (Addr.mk w.heap.size 26 none)) 8 (x.toNat) 8) (8-x.toNat) (8-x.toNat)) a b/\∃(x:NI),BB b w.heap.size 0 (AQ .i64 x 0 94)/\DJ b w'.heap.size 0 (AQ .i64 x 0 94)/\∀d,d=F5 b w'.heap.size 0 (AQ .i64 x 0 94)->∃(x:NI),BB d w'.heap.size 0 (AQ .i64 x 0 94)/\K (.agg (List.toArray (AQ .i64 x 0 94))) d) False)) False) False)):Ret 170 #[agg (List.toArray (AQ .i64 c0 0 94))] w K:=vcA L10 1 [] func170 h
theorem vc171(c0:NI)(w:WD)(K:KV)(h:Q (AW w (List.toArray (AQ .i64 c0 0 94)) 26 λw'=>RI w' w.heap.size 0 λx=>∃(I:Bool->Int->WD->Nat->Prop),(∃(n:Nat),I false 0 w' n)/\∀(b:Bool) (n:Int) (w':WD) (d:Nat),I b n w' d->Wif (decide (n<x)) (RI w' w.heap.size 0 λx=>∃(c:Bool->Int->WD->Nat->Prop),(∃(n:Nat),c b 0 w' n)/\∀(b:Bool) (a:Int) (w':WD) (f:Nat),c b a w' f->Wif (decide (a<x)) (Wn n 8 (Wn a 8 (RI w' w.heap.size (26+n.toNat*8+a.toNat*1) λx=>Wif (!(x==0)==(n==a)) (K (.bool false) w') (gIf (inB a 8) ((!(decide (x>=0)&&decide (x<=255)))=false) (gIf (inB n 8) ((!(decide (x>=0)&&decide (x<=255)))=false) (∃(g:Int),((!(decide (x>=0)&&decide (x<=255)))=false->rd w' w.heap.size (26+a.toNat*8+n.toNat*1)=some (.int .i64 g))/\Wif (!(decide (x>=0)&&decide (x<=255))||x != g) (K (.bool false) w') (Lt f λm=>c b (wrap .i64 (a+1)) w' m))))))) (Lt d λm=>I b (wrap .i64 (n+1)) w' m)) (K (.bool true) w'))):Ret 171 #[agg (List.toArray (AQ .i64 c0 0 94))] w K:=vcA L10 1 [] func171 h
theorem vc60(c0:NI)(w:WD)(K:KV)(h:Q (AW w (List.toArray (AQ .i64 c0 0 94)) 26 λw'=>Dr w' λd=>RI d w.heap.size 0 λx=>∃(g:Int),((!(decide (x>=1)&&decide (x<=8)))=false->rd d w.heap.size 1=some (.int .i64 g))/\Wif (!(decide (x>=1)&&decide (x<=8))) (K (.bool false) d) (∃(x:Int),((!(decide (g>=1)&&decide (g<=16)))=false->rd d w.heap.size 90=some (.int .i64 x))/\Wif (!(decide (g>=1)&&decide (g<=16))) (K (.bool false) d) (∃(a:NI),((!(decide (x>=0)&&decide (x<=1024)))=false->BB d w.heap.size 0 (AQ .i64 a 0 94))/\∃(i:NI),((!(decide (x>=0)&&decide (x<=1024)))=false->BB d w.heap.size 0 (AQ .i64 i 0 94))/\Wif (!(decide (x>=0)&&decide (x<=1024))) (((!(decide (x>=0)&&decide (x<=1024)))=false->BB d w.heap.size 0 (AQ .i64 a 0 94)/\True)/\K (.bool false) d) (Calls prog 170 #[agg (List.toArray (AQ .i64 i 0 94))] d λe w'=>∃(f:NI),e=rT (.agg (List.toArray (AQ .i64 f 0 94)))/\((!(decide (x>=0)&&decide (x<=1024)))=false->BB w' w.heap.size 0 (AQ .i64 a 0 94)/\True)/\Wif (!(a 0==f 0&&(a 1==f 1&&(a 2==f 2&&(a 3==f 3&&(a 4==f 4&&(a 5==f 5&&(a 6==f 6&&(a 7==f 7&&(a 8==f 8&&(a 9==f 9&&(a 10==f 10&&(a 11==f 11&&(a 12==f 12&&(a 13==f 13&&(a 14==f 14&&(a 15==f 15&&(a 16==f 16&&(a 17==f 17&&true)))))))))))))))&&(a 18==f 18&&(a 19==f 19&&(a 20==f 20&&(a 21==f 21&&(a 22==f 22&&(a 23==f 23&&(a 24==f 24&&(a 25==f 25&&true)))))))&&(a 26==f 26&&(a 27==f 27&&(a 28==f 28&&(a 29==f 29&&(a 30==f 30&&(a 31==f 31&&(a 32==f 32&&(a 33==f 33&&true)))))))&&(a 34==f 34&&(a 35==f 35&&(a 36==f 36&&(a 37==f 37&&(a 38==f 38&&(a 39==f 39&&(a 40==f 40&&(a 41==f 41&&true)))))))&&(a 42==f 42&&(a 43==f 43&&(a 44==f 44&&(a 45==f 45&&(a 46==f 46&&(a 47==f 47&&(a 48==f 48&&(a 49==f 49&&true)))))))&&(a 50==f 50&&(a 51==f 51&&(a 52==f 52&&(a 53==f 53&&(a 54==f 54&&(a 55==f 55&&(a 56==f 56&&(a 57==f 57&&true)))))))&&(a 58==f 58&&(a 59==f 59&&(a 60==f 60&&(a 61==f 61&&(a 62==f 62&&(a 63==f 63&&(a 64==f 64&&(a 65==f 65&&true)))))))&&(a 66==f 66&&(a 67==f 67&&(a 68==f 68&&(a 69==f 69&&(a 70==f 70&&(a 71==f 71&&(a 72==f 72&&(a 73==f 73&&true)))))))&&(a 74==f 74&&(a 75==f 75&&(a 76==f 76&&(a 77==f 77&&(a 78==f 78&&(a 79==f 79&&(a 80==f 80&&(a 81==f 81&&true)))))))&&(a 82==f 82&&(a 83==f 83&&(a 84==f 84&&(a 85==f 85&&(a 86==f 86&&(a 87==f 87&&(a 88==f 88&&(a 89==f 89&&true)))))))&&true)))))))&&(a 90==f 90&&(a 91==f 91&&(a 92==f 92&&(a 93==f 93&&true)))))))))) (K (.bool false) w') (RI w' w.heap.size 1 λx=>Wif (CZ 0 x 16) (∃(I:Bool->Int->WD->Nat->Prop),(∃(n:Nat),I false 0 w' n)/\∀(b:Bool) (n:Int) (w':WD) (j:Nat),I b n w' j->Wif (decide (n<(↑(x.toNat):Int))) (Wn n (x.toNat) (RI w' w.heap.size (2+n.toNat*1) λx=>RI w' w.heap.size 0 λc=>Wif (!(decide (x>=0)&&decide (x<=wrap .i64 (c-1)))) (K (.bool false) w') (Lt j λm=>I b (wrap .i64 (n+1)) w' m))) (RI w' w.heap.size 0 λx=>Wif (CZ 0 x 8) (∃(I:Bool->Int->WD->Nat->Prop),(∃(n:Nat),I b 0 w' n)/\∀(b:Bool) (n:Int) (w':WD) (k:Nat),I b n w' k->Wif (decide (n<(↑(x.toNat):Int))) (Wn n (x.toNat) (RI w' w.heap.size (18+n.toNat*1) λx=>∃(c:Int),((!(decide (x>=4)&&decide (x<=128)))=false->rd w' w.heap.size 93=some (.int .i64 c))/\Wif (!(decide (x>=4)&&decide (x<=128))||decide (c>x)) (K (.bool false) w') (Lt k λm=>I b (wrap .i64 (n+1)) w' m))) (∃(x:NI),BB w' w.heap.size 0 (AQ .i64 x 0 94)/\CB 171 #[agg (List.toArray (AQ .i64 x 0 94))] w' λb w'=>∃(x:Int),(b=true->rd w' w.heap.size 91=some (.int .i64 x))/\∃(c:Int),((b&&decide (0<=x))=true->rd w' w.heap.size 91=some (.int .i64 c))/\∃(h:Int),((b&&decide (0<=x))=true->rd w' w.heap.size 92=some (.int .i64 h))/\∃(l:Int),((b&&decide (0<=x)&&decide (c<=h))=true->rd w' w.heap.size 92=some (.int .i64 l))/\∃(o:Int),((b&&decide (0<=x)&&decide (c<=h))=true->rd w' w.heap.size 93=some (.int .i64 o))/\K (.bool (b&&decide (0<=x)&&decide (c<=h)&&decide (l<=o))) w')) False)) False)))))):Ret 60 #[agg (List.toArray (AQ .i64 c0 0 94))] w K:=vcA L10 1 [] func60 h
theorem vc52(c0:NI)(frame:Int)(w:WD)(K:KV)(h:Q (AW w (List.toArray (AQ .i64 c0 0 94)) 26 λw'=>∃(x:NI),BB w' w.heap.size 0 (AQ .i64 x 0 94)/\CB 60 #[agg (List.toArray (AQ .i64 x 0 94))] w' λb w'=>Wif (!b) (K (.tuple #[vi 0,vi 2]) w') (∃(I:Int->Int->Int->Int->WD->Nat->Prop),(∃(n:Nat),I frame 0 0 0 w' n)/\∀(n c d a:Int) (w':WD) (f:Nat),I n c d a w' f->∃(x:Int),(decide (n>=0)=true->rd w' w.heap.size 0=some (.int .i64 x))/\Wif (decide (n>=0)&&decide (a<x)) (Wn a 8 (RI w' w.heap.size (18+a.toNat*1) λx=>Wif (decide (n<x)) (K (.tuple #[vi a,vi 0]) w') (Wn a 8 (RI w' w.heap.size (18+a.toNat*1) λx=>Lt f λm=>I (wrap .i64 (n-x)) c d (wrap .i64 (a+1)) w' m)))) (K (.tuple #[vi 0,vi 7]) w')))):Ret 52 #[agg (List.toArray (AQ .i64 c0 0 94)),vi frame] w K:=vcA L10 1 [] func52 h
theorem vc92(c0:NI)(node:Int)(w:WD)(K:KV)(h:Q (AW w (List.toArray (AQ .i64 c0 0 94)) 26 λw'=>∃(x:NI),BB w' w.heap.size 0 (AQ .i64 x 0 94)/\CB 60 #[agg (List.toArray (AQ .i64 x 0 94))] w' λb w'=>Wif (!b) (K (.tuple #[vi 0,vi 2]) w') (RI w' w.heap.size 0 λx=>Wif (!(decide (node>=0)&&decide (node<=wrap .i64 (x-1)))) (K (.tuple #[vi 0,vi 7]) w') (Wif (CZ 0 node 8) (∃(I:Int->Int->WD->Nat->Prop),(∃(n:Nat),I 0 0 w' n)/\∀(n a:Int) (w':WD) (c:Nat),I n a w' c->Wif (decide (a<(↑(node.toNat):Int))) (Wn a (node.toNat) (RI w' w.heap.size (18+a.toNat*1) λx=>Lt c λm=>I (wrap .i64 (n+x)) (wrap .i64 (a+1)) w' m)) (K (.tuple #[vi n,vi 0]) w')) False)))):Ret 92 #[agg (List.toArray (AQ .i64 c0 0 94)),vi node] w K:=vcA L10 1 [] func92 h
abbrev cfg(c:NI):List Value:=AQ .i64 c 0 94
abbrev LI(c:NI):Value:=.agg (cfg c).toArray
def MQ(f:NI)(o n:Nat):NI:=λi=>if o<=i/\i<o+n then 0 else f i
section
variable {w w':WD}{b:Nat}{f:NI}
theorem SB{t e:TypeId}(ht:prog.underlying t=some (.slice e))(hv:∀w,(zeroValue e).run prog w=.ok z w)(hz:z.cells=(replicate s (.int .i64 0)).toArray)
 (h:AX w b (cfg f)) (o k cap:Nat) (hk:k<=cap) (hn:o+cap*s<=94) {ty:TypeId} :
 ∃w',JS prog #[t] ty (.slice (BS (some ⟨b,o,none⟩) cap k s) (cap-k) (cap-k)) w w'/\AX w' b (cfg (MQ f (o+k*s) ((cap-k)*s)))/\AB (·=b) w w':=by
 have hks:k*s+(cap-k)*s=cap*s:=by rw [<- Nat.add_mul];congr 1;omega
 have hoff:∃o',BS (some ⟨b,o,none⟩) cap k s=some ⟨b,o',none⟩/\(o'=o+k*s\/k=cap)/\o'+(cap-k)*s<=94:=by
  unfold BS;by_cases e:cap=k
  .rw [if_pos e];exact⟨o,rfl,.inr e.symm,by subst e;simp;omega⟩
  .rw [if_neg e];refine⟨o+k*s,?_,.inl rfl,by omega⟩;simp [Addr.add]
 obtain⟨o',e1,e2,e3⟩:=hoff;rw [e1];obtain⟨w',hc,ho,hkp⟩:=B6c (ty:=ty) ht hv hz rfl h o' (cap-k) (cap-k) (by rw [AM];exact e3);refine⟨w',hc,?_,hkp⟩;have:(cfg f).take o'++replicate ((cap-k)*s) (int .i64 0)++(cfg f).drop (o'+(cap-k)*s)=cfg (MQ f (o+k*s) ((cap-k)*s)):=by
  refine DX (by simp [AM];omega) λj hj=>?_;have hl:((cfg f).take o').length=o':=by simp [AM];omega
  by_cases h1:j<o'
  .rw [List.append_assoc,gal (by omega),List.getElem?_take,if_pos h1,AZ _ _ _ _ _ hj,za];unfold MQ;rw [if_neg];rcases e2 with rfl|rfl
   .omega
   .rw [Nat.sub_self];omega
  .by_cases h2:j<o'+(cap-k)*s
   .rw [gal (by simp [AM];omega),gar (by omega),List.getElem?_replicate,if_pos (by omega)];unfold MQ;rw [if_pos];rcases e2 with rfl|rfl
    .omega
    .rw [Nat.sub_self] at h2;omega
   .rw [gar (by simp [AM];omega),List.getElem?_drop];rw [show o'+(cap-k)*s+(j-(List.take o' (cfg f)++replicate ((cap-k)*s) (int .i64 0)).length)=j by simp [AM];omega,AZ _ _ _ _ _ hj,za];unfold MQ;rw [if_neg];rcases e2 with rfl|rfl
    .omega
    .rw [Nat.sub_self];omega
 rw [this] at ho;exact ho
end
def IK(c:NI)(i:Nat):Int:=
 if (2+(c 1).toNat<=i/\i<18)\/(18+(c 0).toNat<=i/\i<26)\/(26<=i/\i<90/\((c 0).toNat<=(i-26)%8\/(c 0).toNat<=(i-26)/8)) then 0 else c i
def LM(c g:NI)(q:Nat)(i:Nat):Int:=if 26<=i/\i<26+8*q/\(c 0).toNat<=(i-26)%8 then 0 else g i
theorem A9r(w:WD):(zeroValue 3).run prog w=.ok (.int .i64 0) w:=zeroValue3 w
theorem B99(w:WD):(zeroValue 23).run prog w=.ok (.agg (replicate 8 (int .i64 0)).toArray) w:=zeroValue23 w
theorem B3n(c:NI)(w:WD)(h0:0<=c 0/\c 0<=8)(h1:0<=c 1/\c 1<=16) :
 Calls prog 170 #[LI c] w λr w'=>r=.returned (LI (IK c))/\AB AD w w':=by
 refine(vc170 c w (λv w'=>v=LI (IK c)/\AB AD w w') ?_).AE ?_
 .unfold Q;intro w1 e1 w2 e2;have o1:=AG e1;have k1:=kal e1;have o2:=o1.al e2;have p2:=AG e2;have k2:AB AD w w2:=k1.al e2;have z1:w1.heap.size=w.heap.size+1:=by rw [e1];simp only [World.alloc,Array.size_push]
  have z2:w2.heap.size=w.heap.size+2:=by rw [e2];simp only [World.alloc,Array.size_push];omega
  clear e1 e2;generalize hb:w.heap.size=b at *;generalize hb2:w1.heap.size=b2 at *;have kb:∀{X:NP}{wa wb:WD},AB AD w wa->AB (·=b) wa wb->AB AD w wb:=λka k=>ka.trans k λx hx e=>by omega
  refine⟨_,o2.rI (j:=1) (by omega),AA (BR h1.1 h1.2 (Int.le_refl _)) ?_⟩;obtain⟨w3,c3,o3,k3⟩:=SB (t:=27) (e:=3) (s:=1) (z:=.int .i64 0) (ty:=0) underlying27 A9r rfl o2 2 (c 1).toNat 16 (by omega) (by omega);refine⟨w3,c3,?_⟩;have K3:=kb (X:=AD) k2 k3;have p3:=p2.kx k3 (by omega);have e0:MQ c (2+(c 1).toNat*1) ((16-(c 1).toNat)*1) 0=c 0:=by unfold MQ;rw [if_neg (by omega)]
  generalize hf1:MQ c (2+(c 1).toNat*1) ((16-(c 1).toNat)*1)=f1 at *;refine⟨c 0,by rw [o3.rI (j:=0) (by omega),e0],AA (BR h0.1 h0.2 (Int.le_refl _)) ?_⟩;obtain⟨w4,c4,o4,k4⟩:=SB (t:=27) (e:=3) (s:=1) (z:=.int .i64 0) (ty:=0) underlying27 A9r rfl o3 18 (c 0).toNat 8 (by omega) (by omega);refine⟨w4,c4,?_⟩;have K4:=kb (X:=AD) K3 k4;have p4:=p3.kx k4 (by omega);have e0':MQ f1 (18+(c 0).toNat*1) ((8-(c 0).toNat)*1) 0=c 0:=by unfold MQ;rw [if_neg (by omega),e0]
  generalize hf2:MQ f1 (18+(c 0).toNat*1) ((8-(c 0).toNat)*1)=f2 at *;refine⟨λk w' N=>∃q:Nat,k=q/\q<=8/\N=8-q/\AB AD w w'/\AX w' b (cfg (LM c f2 q))/\AX w' b2 (replicate 94 (int .i64 0)),⟨8,0,rfl,by omega,rfl,K4,?_,p4⟩,?_⟩
  .have:cfg (LM c f2 0)=cfg f2:=NH λj hj=>by unfold LM;rw [if_neg (by omega)]
   rw [this];exact o4
  rintro _ w5 _ ⟨q,rfl,hq,rfl,K5,o5,p5⟩;have er:LM c f2 q 0=c 0:=by unfold LM;rw [if_neg (by omega),e0']
  refine AH (λhc=>?_) (λhc=>?_)
  .simp only [decide_eq_true_eq] at hc;intro w6 e6;have K6:=K5.dr e6;have o6:=o5.dr e6;have p6:=p5.dr e6;refine Wi ⟨c 0,by rw [o6.rI (j:=0) (by omega),er],AA (BR h0.1 h0.2 (Int.le_refl _)) ?_⟩;obtain⟨w7,c7,o7,k7⟩:=SB (t:=27) (e:=3) (s:=1) (z:=.int .i64 0) (ty:=0) underlying27 A9r rfl o6 (26+q*8) (c 0).toNat 8 (by omega) (by omega);refine⟨w7,by rw [tnc];exact c7,8-(q+1),by omega,q+1,wzz,by omega,rfl,kb (X:=AD) K6 k7,?_,p6.kx k7 (by omega)⟩;have:cfg (MQ (LM c f2 q) (26+q*8+(c 0).toNat*1) ((8-(c 0).toNat)*1))=cfg (LM c f2 (q+1)):=NH λj hj=>by
    simp only [MQ,LM,za];by_cases h2:26<=j/\j<26+8*q/\(c 0).toNat<=(j-26)%8
    .rw [if_neg (by omega),if_pos h2,if_pos (by omega)]
    .by_cases h3:26+q*8+(c 0).toNat*1<=j/\j<26+q*8+(c 0).toNat*1+(8-(c 0).toNat)*1
     .rw [if_pos h3,if_pos (by omega)]
     .rw [if_neg h3,if_neg h2,if_neg (by omega)]
   rw [<- this];exact o7
  .have hq8:q=8:=by simp at hc;omega
   subst hq8;refine⟨c 0,by rw [o5.rI (j:=0) (by omega),er],AA (BR h0.1 h0.2 (Int.le_refl _)) ?_⟩;obtain⟨w6,c6,o6,k6⟩:=SB (t:=350) (e:=23) (s:=8) (ty:=0) underlying350 B99 rfl o5 26 (c 0).toNat 8 (by omega) (by omega);have K6:=kb (X:=AD) K5 k6;have p6:=p5.kx k6 (by omega);have hcf:cfg (MQ (LM c f2 8) (26+(c 0).toNat*8) ((8-(c 0).toNat)*8))=cfg (IK c):=NH λj hj=>by
    rw [<- hf2,<- hf1];simp only [MQ,LM,IK,za];by_cases h2:(2+(c 1).toNat<=j/\j<18)\/(18+(c 0).toNat<=j/\j<26)\/(26<=j/\j<90/\((c 0).toNat<=(j-26)%8\/(c 0).toNat<=(j-26)/8))
    .rw [if_pos h2];split
     .rfl
     split
     .rfl
     split
     .rfl
     split
     .rfl
     omega
    .rw [if_neg h2,if_neg (by omega),if_neg (by omega),if_neg (by omega),if_neg (by omega)]
   rw [hcf] at o6;refine⟨w6,c6,IK c,o6.DW,p6.DJ 0 (by rw [AM];simp),?_⟩;intro w7 e7;obtain⟨o7,k7⟩:=F4 p6 e7 (by rw [AM];simp);exact⟨IK c,o7.DW,rfl,K6.trans k7 λx hx e=>by omega⟩
 .rintro e w' ⟨v,rfl,rfl,hw⟩;exact⟨rfl,hw⟩
def seg(P:Nat->Bool):Nat->Nat->Bool
 | _,0=>true
 | i,n+1=>P i&&seg P (i+1) n
theorem B0j{P:Nat->Bool}:∀{i n:Nat},seg P i n=true↔∀j,j<n->P (i+j)=true
 | i,0=>⟨λ_ j h=>absurd h (nlz _),λ_=>rfl⟩
 | i,n+1=>by
  simp only [seg,Bool.and_eq_true];rw [B0j];constructor
  .rintro ⟨h0,h⟩ j hj
   cases j with
   | zero=>exact h0
   | succ j=>rw [show i+(j+1)=i+1+j by omega];exact h j (by omega)
  .intro h;exact⟨h 0 (by omega),λj hj=>by rw [show i+1+j=i+(j+1) by omega];exact h (j+1) (by omega)⟩
def SC(P:Nat->Bool):Bool:=P 0&&(P 1&&(P 2&&(P 3&&(P 4&&(P 5&&(P 6&&(P 7&&(P 8&&(P 9&&(P 10&&(P 11&&(P 12&&(P 13&&(P 14&&(P 15&&(P 16&&(P 17&&true)))))))))))))))&&(P 18&&(P 19&&(P 20&&(P 21&&(P 22&&(P 23&&(P 24&&(P 25&&true)))))))&&(P 26&&(P 27&&(P 28&&(P 29&&(P 30&&(P 31&&(P 32&&(P 33&&true)))))))&&(P 34&&(P 35&&(P 36&&(P 37&&(P 38&&(P 39&&(P 40&&(P 41&&true)))))))&&(P 42&&(P 43&&(P 44&&(P 45&&(P 46&&(P 47&&(P 48&&(P 49&&true)))))))&&(P 50&&(P 51&&(P 52&&(P 53&&(P 54&&(P 55&&(P 56&&(P 57&&true)))))))&&(P 58&&(P 59&&(P 60&&(P 61&&(P 62&&(P 63&&(P 64&&(P 65&&true)))))))&&(P 66&&(P 67&&(P 68&&(P 69&&(P 70&&(P 71&&(P 72&&(P 73&&true)))))))&&(P 74&&(P 75&&(P 76&&(P 77&&(P 78&&(P 79&&(P 80&&(P 81&&true)))))))&&(P 82&&(P 83&&(P 84&&(P 85&&(P 86&&(P 87&&(P 88&&(P 89&&true)))))))&&true)))))))&&(P 90&&(P 91&&(P 92&&(P 93&&true))))))))
theorem A9e(P:Nat->Bool):SC P=(P 0&&(P 1&&(seg P 2 16&&(seg P 18 8&&((seg P 26 8&&(seg P 34 8&&(seg P 42 8&&(seg P 50 8&&(seg P 58 8&&(seg P 66 8&&(seg P 74 8&&(seg P 82 8&&true))))))))&&seg P 90 4))))):=rfl
theorem RA(P:Nat->Bool):SC P=true↔∀i,i<94->P i=true:=by
 rw [A9e];simp only [Bool.and_eq_true,B0j];constructor
 .rintro ⟨h0,h1,h2,h3,⟨h4,h5,h6,h7,h8,h9,h10,h11,-⟩,h12⟩ i hi;have go:∀o n,(∀j,j<n->P (o+j)=true)->o<=i->i<o+n->P i=true:=λo n h ho hn=>by
   have:=h (i-o) (by omega);rw [show o+(i-o)=i by omega] at this;exact this
  by_cases e0:i=0
  .subst e0;exact h0
  by_cases e1:i=1
  .subst e1;exact h1
  by_cases e2:i<18
  .exact go _ _ h2 (by omega) (by omega)
  by_cases e3:i<26
  .exact go _ _ h3 (by omega) (by omega)
  by_cases e4:i<34
  .exact go _ _ h4 (by omega) (by omega)
  by_cases e5:i<42
  .exact go _ _ h5 (by omega) (by omega)
  by_cases e6:i<50
  .exact go _ _ h6 (by omega) (by omega)
  by_cases e7:i<58
  .exact go _ _ h7 (by omega) (by omega)
  by_cases e8:i<66
  .exact go _ _ h8 (by omega) (by omega)
  by_cases e9:i<74
  .exact go _ _ h9 (by omega) (by omega)
  by_cases e10:i<82
  .exact go _ _ h10 (by omega) (by omega)
  by_cases e11:i<90
  .exact go _ _ h11 (by omega) (by omega)
  .exact go _ _ h12 (by omega) (by omega)
 .intro h;exact⟨h 0 (by omega),h 1 (by omega),λj hj=>h _ (by omega),λj hj=>h _ (by omega),⟨λj hj=>h _ (by omega),λj hj=>h _ (by omega),λj hj=>h _ (by omega),λj hj=>h _ (by omega),λj hj=>h _ (by omega),λj hj=>h _ (by omega),λj hj=>h _ (by omega),λj hj=>h _ (by omega),trivial⟩,λj hj=>h _ (by omega)⟩
def dst(c:NI)(i k:Nat):Int:=c (26+i*8+k)
def B1f(c:NI)(i k:Nat):Prop:=(dst c i k=0↔i=k)/\(0<=dst c i k/\dst c i k<=255)/\dst c i k=dst c k i
def B3u(c:NI):Prop:=∀i k:Nat,i<(c 0).toNat->k<(c 0).toNat->B1f c i k
theorem B1e(c:NI)(w:WD)(h0:0<=c 0/\c 0<=8):Calls prog 171 #[LI c] w λr w'=>∃b,r=.returned (.bool b)/\(b=true↔B3u c)/\AB AD w w':=by
 refine(vc171 c w (λv w'=>∃b,v=.bool b/\(b=true↔B3u c)/\AB AD w w') ?_).AE ?_
 .unfold Q;intro w1 e1;have o1:=AG e1;have k1:=kal e1;generalize hb:w.heap.size=b at *;have no:∀w',¬B3u c->AB AD w w'->∃b,Value.bool false=.bool b/\(b=true↔B3u c)/\AB AD w w':=λw' h k=>⟨false,rfl,by simpa using h,k⟩;refine⟨c 0,o1.rI (j:=0) (by omega),?_⟩;refine⟨λ_ k w' N=>∃q:Nat,k=q/\q<=(c 0).toNat/\N=(c 0).toNat-q/\AB AD w w'/\AX w' b (cfg c)/\∀i,i<q->∀k,k<(c 0).toNat->B1f c i k,⟨(c 0).toNat,0,rfl,by omega,rfl,k1,o1,λi hi=>by omega⟩,?_⟩;rintro _ _ w2 _ ⟨q,rfl,hq,rfl,k2,o2,a2⟩;refine AH (λhc=>?_) (λhc=>?_)
  .simp only [decide_eq_true_eq] at hc;refine⟨c 0,o2.rI (j:=0) (by omega),?_⟩;refine⟨λ_ k w' N=>∃q2:Nat,k=q2/\q2<=(c 0).toNat/\N=(c 0).toNat-q2/\AB AD w w'/\AX w' b (cfg c)/\∀k,k<q2->B1f c q k,⟨(c 0).toNat,0,rfl,by omega,rfl,k2,o2,λi hi=>by omega⟩,?_⟩;rintro _ _ w3 _ ⟨q2,rfl,hq2,rfl,k3,o3,a3⟩;refine AH (λhc2=>?_) (λhc2=>?_)
   .simp only [decide_eq_true_eq] at hc2;have eB:∀{x y:Prop},Wif (inB (q:Int) 8) x y=x:=by intro x y;rw [DZ (by omega) (by omega)];rfl
    have eB2:∀{x y:Prop},Wif (inB (q2:Int) 8) x y=x:=by intro x y;rw [DZ (by omega) (by omega)];rfl
    simp only [eB,eB2,tnc];refine⟨dst c q q2,by rw [mo];exact o3.rI (by omega),AH (λh=>?_) (λh=>?_)⟩
    .refine no _ (λhn=>?_) k3;have:=(hn q q2 (by omega) (by omega)).1;by_cases e:dst c q q2=0
     .have e':=this.1 e;subst e';simp [e] at h
     .have e':(q:Int)≠(q2:Int):=λx=>e (this.2 (by omega));rw [show(dst c q q2==0)=false by simpa using e,show((q:Int)==(q2:Int))=false by simpa using e'] at h
      cases h
    refine AJ (λ_=>DZ (by omega) (by omega)) (AJ (λ_=>DZ (by omega) (by omega)) ?_);refine⟨dst c q2 q,λ_=>by rw [mo];exact o3.rI (by omega),AH (λh2=>?_) (λh2=>?_)⟩
    .refine no _ (λhn=>?_) k3;obtain⟨_,h5,h6⟩:=hn q q2 (by omega) (by omega);rw [<- h6,decide_eq_true (show dst c q q2>=0 from h5.1),decide_eq_true h5.2] at h2;simp at h2
    .refine⟨(c 0).toNat-(q2+1),by omega,q2+1,wzz,by omega,rfl,k3,o3,λk hk=>?_⟩;rcases Nat.lt_or_ge k q2 with hlt|hge
     .exact a3 k hlt
     .have:k=q2:=by omega
      subst this;simp at h2;refine⟨?_,by omega,h2.2⟩;have hb:((dst c q k==0)==((q:Int)==(k:Int)))=true:=by
       rw [<- Bool.not_eq_false'];exact h
      by_cases e:dst c q k=0
      .rw [show(dst c q k==0)=true by simpa using e] at hb;have:(q:Int)=(k:Int):=by simpa using hb
       exact⟨λ_=>by omega,λ_=>e⟩
      .rw [show(dst c q k==0)=false by simpa using e] at hb;have:(q:Int)≠(k:Int):=by simpa using hb
       exact⟨λh'=>absurd h' e,λh'=>absurd (congrArg Nat.cast h') this⟩
   .simp at hc2;refine⟨(c 0).toNat-(q+1),by omega,q+1,wzz,by omega,rfl,k3,o3,λi hi k hk=>?_⟩;rcases Nat.lt_or_ge i q with hlt|hge
    .exact a2 i hlt k hk
    .have:i=q:=by omega
     subst this;exact a3 k (by omega)
  .simp at hc;exact⟨true,rfl,by simp;exactλi k hi hk=>a2 i (by omega) k hk,k2⟩
 .rintro e w' ⟨v,rfl,b,rfl,hw⟩;exact⟨b,rfl,hw⟩
def D6(c:NI):Prop:=
 (1<=c 0/\c 0<=8)/\(1<=c 1/\c 1<=16)/\(0<=c 90/\c 90<=1024)/\(∀i,i<94->c i=IK c i)/\(∀i,i<(c 1).toNat->0<=c (2+i)/\c (2+i)<=c 0-1)/\
 (∀i,i<(c 0).toNat->(4<=c (18+i)/\c (18+i)<=128)/\c 93<=c (18+i))/\B3u c/\0<=c 91/\c 91<=c 92/\c 92<=c 93
theorem HH(c:NI)(w:WD):Calls prog 60 #[LI c] w λr w'=>∃b,r=.returned (.bool b)/\(b=true↔D6 c)/\AB AD w w':=by
 refine(vc60 c w (λv w'=>∃b,v=.bool b/\(b=true↔D6 c)/\AB AD w w') ?_).AE ?_
 .unfold Q;intro w1 e1;have o1:=AG e1;have k1:=kal e1;generalize hb:w.heap.size=b at *;intro w2 e2;have o2:=o1.dr e2;have k2:=k1.dr e2;have no:∀w',¬D6 c->AB AD w w'->∃b,Value.bool false=.bool b/\(b=true↔D6 c)/\AB AD w w':=λw' h k=>⟨false,rfl,by simpa using h,k⟩;refine⟨c 0,o2.rI (by omega),c 1,λ_=>o2.rI (by omega),AH (λh=>?_) (λh=>?_)⟩
  .refine no _ (λhm=>?_) k2;have:=hm.1;simp at h;omega
  have h0:1<=c 0/\c 0<=8:=by simpa using h
  refine⟨c 90,λ_=>o2.rI (by omega),AH (λh=>?_) (λh=>?_)⟩
  .refine no _ (λhm=>?_) k2;have:=hm.2.1;simp at h;omega
  have h1:1<=c 1/\c 1<=16:=by simpa using h
  refine⟨c,λ_=>o2.DW,c,λ_=>o2.DW,AH (λh=>?_) (λh=>?_)⟩
  .refine⟨λ_=>⟨o2.DW,trivial⟩,no _ (λhm=>?_) k2⟩;have:=hm.2.2.1;simp at h;omega
  have h2:0<=c 90/\c 90<=1024:=by simpa using h
  refine(B3n c w2 (by omega) (by omega)).AE ?_;rintro _ w3 ⟨rfl,k3⟩;have o3:=o2.k k3;have K3:=k2.tr k3;refine⟨IK c,rfl,λ_=>⟨o3.DW,trivial⟩,AH (λh=>?_) (λh=>?_)⟩
  .refine no _ (λhm=>?_) K3;have h':(!(SC λi=>c i==IK c i))=true:=h;rw [(RA _).2 λi hi=>by simpa using hm.2.2.2.1 i hi] at h'
   cases h'
  have h3:∀i,i<94->c i=IK c i:=by
   have h':(!(SC λi=>c i==IK c i))=false:=h;rw [Bool.not_eq_false'] at h';intro i hi;simpa using (RA _).1 h' i hi
  clear h;refine⟨c 1,o3.rI (by omega),AA BR ?_⟩;refine⟨λ_ k w' N=>∃q:Nat,k=q/\q<=(c 1).toNat/\N=(c 1).toNat-q/\AB AD w w'/\AX w' b (cfg c)/\∀i,i<q->0<=c (2+i)/\c (2+i)<=c 0-1,⟨(c 1).toNat,0,rfl,by omega,rfl,K3,o3,λi hi=>by omega⟩,?_⟩;rintro _ _ w4 _ ⟨q,rfl,hq,rfl,k4,o4,a4⟩;refine AH (λhc=>?_) (λhc=>?_)
  .simp only [decide_eq_true_eq] at hc;refine Wi ⟨c (2+q),by rw [tnc,mo];exact o4.rI (by omega),c 0,o4.rI (by omega),AH (λh=>?_) (λh=>?_)⟩
   .refine no _ (λhm=>?_) k4;have:=hm.2.2.2.2.1 q (by omega);rw [wi (by omega)] at h;simp at h;omega
   .rw [wi (by omega)] at h;refine⟨(c 1).toNat-(q+1),by omega,q+1,wzz,by omega,rfl,k4,o4,λi hi=>?_⟩;rcases Nat.lt_or_ge i q with hlt|hge
    .exact a4 i hlt
    .have:i=q:=by omega
     subst this;simpa using h
  have hqe:q=(c 1).toNat:=by simp at hc;omega
  subst hqe;refine⟨c 0,o4.rI (by omega),AA BR ?_⟩;refine⟨λ_ k w' N=>∃q:Nat,k=q/\q<=(c 0).toNat/\N=(c 0).toNat-q/\AB AD w w'/\AX w' b (cfg c)/\∀i,i<q->(4<=c (18+i)/\c (18+i)<=128)/\c 93<=c (18+i),⟨(c 0).toNat,0,rfl,by omega,rfl,k4,o4,λi hi=>by omega⟩,?_⟩;rintro _ _ w5 _ ⟨q,rfl,hq,rfl,k5,o5,a5⟩;refine AH (λhc=>?_) (λhc=>?_)
  .simp only [decide_eq_true_eq] at hc;refine Wi ⟨c (18+q),by rw [tnc,mo];exact o5.rI (by omega),c 93,λ_=>o5.rI (by omega),AH (λh=>?_) (λh=>?_)⟩
   .refine no _ (λhm=>?_) k5;have:=hm.2.2.2.2.2.1 q (by omega);simp at h;omega
   .refine⟨(c 0).toNat-(q+1),by omega,q+1,wzz,by omega,rfl,k5,o5,λi hi=>?_⟩;rcases Nat.lt_or_ge i q with hlt|hge
    .exact a5 i hlt
    .have:i=q:=by omega
     subst this;simp at h;omega
  have hqe:q=(c 0).toNat:=by simp at hc;omega
  subst hqe;refine⟨c,o5.DW,(B1e c w5 (by omega)).AE ?_⟩;rintro _ w6 ⟨nb,rfl,hnb,k6⟩;have o6:=o5.k k6;refine⟨nb,rfl,c 91,λ_=>o6.rI (by omega),c 91,λ_=>o6.rI (by omega),c 92,λ_=>o6.rI (by omega),c 92,λ_=>o6.rI (by omega),c 93,λ_=>o6.rI (by omega),_,rfl,?_,k5.tr k6⟩;simp only [Bool.and_eq_true,decide_eq_true_eq,hnb];constructor
  .rintro ⟨⟨⟨g1,g2⟩,g3⟩,g4⟩;exact⟨h0,h1,h2,h3,a4,a5,g1,g2,g3,g4⟩
  .rintro ⟨_,_,_,_,_,_,g1,g2,g3,g4⟩;exact⟨⟨⟨g1,g2⟩,g3⟩,g4⟩
 .rintro e w' ⟨v,rfl,b,rfl,hw⟩;exact⟨b,rfl,hw⟩
def AU(c:NI):NI
 | 0=>0
 | k+1=>AU c k+c (18+k)
theorem D6.fr(h:D6 c){i:Nat}(hi:(i:Int)<c 0):4<=c (18+i)/\c (18+i)<=128:=(h.2.2.2.2.2.1 i (by omega)).1
theorem D6.fst(h:D6 c):∀{k:Nat},(k:Int)<=c 0->0<=AU c k/\AU c k<=128*k
 | 0,_=>by simp [AU]
 | k+1,hk=>by
  have:=h.fst (k:=k) (by omega);have:=h.fr (i:=k) (by omega);unfold AU;omega
theorem A3m  (h:D6 c):∀{i k:Nat},i<=k->(k:Int)<=c 0->AU c i<=AU c k
  | i, 0, hi, _ => by have:i=0:=(by omega);subst this;exact Int.le_refl _
  | i,k+1,hi,hk=>by
    rcases Nat.lt_or_ge i (k+1) with hlt|hge
    . have:=A3m h (i:=i) (k:=k) (by omega) (by omega)
      have:=h.fr (i:=k) (by omega);have e:AU c (k+1)=AU c k+c (18+k):=rfl;omega
    . have:i=k+1:=by omega
      subst this;exact Int.le_refl _
theorem ML(c:NI)(hm:D6 c)(w:WD)(i:Nat)(hi:(i:Int)<c 0):Calls prog 92 #[LI c,.int .i64 (i:Int)] w λr w'=>r=.returned (.tuple #[.int .i64 (AU c i),.int .i64 0])/\AB AD w w':=by
 refine(vc92 c i w (λv w'=>v=.tuple #[.int .i64 (AU c i),.int .i64 0]/\AB AD w w') ?_).AE ?_
 .have h0:=hm.1;unfold Q;intro w1 e1;have o1:=AG e1;have k1:=kal e1;generalize hb:w.heap.size=b at *;refine⟨c,o1.DW,(HH c w1).AE ?_⟩;rintro _ w2 ⟨mb,rfl,hmb,k2⟩;have:mb=true:=hmb.2 hm;subst this;have o2:=o1.k k2;refine⟨_,rfl,AL rfl ⟨c 0,o2.rI (by omega),AL ?_ (AA BR ?_)⟩⟩
  .rw [wi (by omega),decide_eq_true (show(i:Int)>=0 by omega),decide_eq_true (show(i:Int)<=c 0-1 by omega)];rfl
  refine⟨λs k w' N=>∃q:Nat,k=q/\q<=i/\N=i-q/\AB AD w w'/\AX w' b (cfg c)/\s=AU c q,⟨i,0,rfl,by omega,rfl,k1.tr k2,o2,rfl⟩,?_⟩;rintro _ _ w3 _ ⟨q,rfl,hq,rfl,k3,o3,rfl⟩;refine AH (λhc=>?_) (λhc=>?_)
  .simp only [decide_eq_true_eq] at hc;have f1:=hm.fst (k:=q+1) (by omega);refine Wi ⟨c (18+q),by rw [tnc,mo];exact o3.rI (by omega),i-(q+1),by omega,q+1,wzz,by omega,rfl,k3,o3,?_⟩;have e:AU c (q+1)=AU c q+c (18+q):=rfl;rw [<- e,wi (by omega)]
  .have:q=i:=by simp at hc;omega
   subst this;exact⟨rfl,k3⟩
 .rintro e w' ⟨v,rfl,rfl,hw⟩;exact⟨rfl,hw⟩
theorem A28(c:NI)(hm:D6 c)(w:WD)(fr:Int)(hfr:fr<=9223372036854775807):Calls prog 52 #[LI c,.int .i64 fr] w λr w'=>AB AD w w'/\
 ((∃i:Nat,(i:Int)<c 0/\AU c i<=fr/\fr<AU c (i+1)/\r=.returned (.tuple #[.int .i64 (i:Int),.int .i64 0]))\/((fr<0\/AU c (c 0).toNat<=fr)/\r=.returned (.tuple #[.int .i64 0,.int .i64 7]))):=by
 refine(vc52 c fr w (λv w'=>AB AD w w'/\((∃i:Nat,(i:Int)<c 0/\AU c i<=fr/\fr<AU c (i+1)/\v=(.tuple #[.int .i64 (i:Int),.int .i64 0]))\/((fr<0\/AU c (c 0).toNat<=fr)/\v=(.tuple #[.int .i64 0,.int .i64 7])))) ?_).AE ?_
 .have h0:=hm.1;unfold Q;intro w1 e1;have o1:=AG e1;have k1:=kal e1;generalize hb:w.heap.size=b at *;refine⟨c,o1.DW,(HH c w1).AE ?_⟩;rintro _ w2 ⟨mb,rfl,hmb,k2⟩;have:mb=true:=hmb.2 hm;subst this;have o2:=o1.k k2;refine⟨_,rfl,AL rfl ?_⟩;refine⟨λs _ _ k w' N=>∃q:Nat,k=q/\(q:Int)<=c 0/\N=(c 0).toNat-q/\AB AD w w'/\AX w' b (cfg c)/\s=fr-AU c q/\(q=0\/0<=s),⟨(c 0).toNat,0,rfl,by omega,by omega,k1.tr k2,o2,by simp [AU],.inl rfl⟩,?_⟩;rintro _ _ _ _ w3 _ ⟨q,rfl,hq,rfl,k3,o3,rfl,hs⟩;have f0:=hm.fst (k:=q) (by omega);refine⟨c 0,λ_=>o3.rI (by omega),AH (λhc=>?_) (λhc=>?_)⟩
  .simp only [Bool.and_eq_true,decide_eq_true_eq] at hc;have f1:=hm.fst (k:=q+1) (by omega);have f2:=hm.fr (i:=q) (by omega);have e:AU c (q+1)=AU c q+c (18+q):=rfl;have hrd:rd w3 b (18+Int.toNat (q:Int)*1)=some (.int .i64 (c (18+q))):=by rw [tnc,mo];exact o3.rI (by omega)
   refine Wi ⟨c (18+q),hrd,AH (λh=>?_) (λh=>?_)⟩
   .simp only [decide_eq_true_eq] at h;exact⟨k3,.inl ⟨q,hc.2,by omega,by omega,rfl⟩⟩
   .simp only [decide_eq_false_iff_not] at h;refine Wi ⟨c (18+q),hrd,(c 0).toNat-(q+1),by omega,q+1,wzz,by omega,rfl,k3,o3,?_,.inr ?_⟩
    .rw [wi (by omega)];omega
    .rw [wi (by omega)];omega
  .refine⟨k3,.inr ⟨?_,rfl⟩⟩;rcases hs with rfl|hs
   .simp [AU] at hc;rcases Int.lt_or_le fr 0 with h|h
    .exact .inl h
    .have:=hc h;omega
   .right;rw [decide_eq_true (show fr-AU c q>=0 from hs)] at hc;simp at hc;have:q=(c 0).toNat:=by omega
    subst this;omega
 .rintro e w' ⟨v,rfl,hk,hw⟩;refine⟨hk,?_⟩;rcases hw with⟨i,h1,h2,h3,rfl⟩|⟨h1,rfl⟩
  .exact .inl ⟨i,h1,h2,h3,rfl⟩
  .exact .inr ⟨h1,rfl⟩
theorem vc62(c0:NI)(w:WD)(K:KV)(h:Q (AW w (List.toArray (AQ .i64 c0 0 94)) 26 λw'=>∃(x:NI),BB w' w.heap.size 0 (AQ .i64 x 0 94)/\CB 60 #[agg (List.toArray (AQ .i64 x 0 94))] w' λb w'=>Wif (!b) (K (.tuple #[pt none,vi 2]) w') (∃(x:NI),BB w' w.heap.size 0 (AQ .i64 x 0 94)/\AW w' (List.toArray (AQ .i64 x 0 94++[sl none 0 0])) 121 λg=>RI g w.heap.size 0 λx=>Wif (CZ 0 x 8) (∃(I:Int->WD->Nat->Prop),(∃(n:Nat),I 0 g n)/\∀(n:Int) (d:WD) (i:Nat),I n d i->Wif (decide (n<(↑(x.toNat):Int))) (Wn n (x.toNat) (RI d w.heap.size (18+n.toNat*1) λx=>Calls prog 174 #[vi x] d λ(e:Ending) (f:WD)=>∃(p:OA) (o:Int),e=rT (.tuple #[pt p,vi o])/\RS f w'.heap.size 94 λx q r=>AW f #[pt p] 118 λj=>∃(a:OA) (l c:Nat) (h:WD),BL prog #[119,119] 119 (sl x q r) (sl (aD f.heap.size) 1 1) (sl a l c) j h/\Sw h w'.heap.size 94 (sl a l c) λk=>Lt i λm=>I (wrap .i64 (n+1)) k m)) (K (.tuple #[AP w'.heap.size,vi 0]) d)) False))):Ret 62 #[agg (List.toArray (AQ .i64 c0 0 94))] w K:=vcA L14 2 [] func62 h
theorem vc37(z AK:OA)(CL nodesC:Nat)(floor:Int)(high:Bool)(w:WD)(K:KV)(h:Q (gIf (isP z) ((!isNone z)=true) (∃(x:OA) (j k:Nat),((!isNone z)=true->rd w (pb z) (po z+94)=some (.slice x j k))/\Wif (!(!isNone z&&!isNone x)) (K (.tuple #[vi 0,vi 1]) w) (∃(I:Int->Int->Int->WD->Nat->Prop),(∃(n:Nat),I 0 0 0 w n)/\∀(n f a:Int) (w':WD) (g:Nat),I n f a w' g->Wif (decide (a<(↑CL:Int))) (Wp AK (Wn a CL (Ri w' AK (a.toNat*1) λx=>gIf (isP z) ((!isNone z)=true) (∃(c:OA) (l o:Nat),((!isNone z)=true->rd w' (pb z) (po z+94)=some (.slice c l o))/\gIf (isP z) ((!isNone z&&!isNone c&&decide (x>=0))=true) (∃(p:OA) (h q:Nat),((!isNone z&&!isNone c&&decide (x>=0))=true->rd w' (pb z) (po z+94)=some (.slice p h q))/\Wif (!(!isNone z&&!isNone c&&decide (x>=0)&&decide (x<(↑h:Int)))) (K (.tuple #[vi 0,vi 2]) w') (Lt g λm=>I n f (wrap .i64 (a+1)) w' m)))))) (Wif (decide (floor<0)) (K (.tuple #[vi 0,vi 2]) w') (∃(I:Int->Int->Int->WD->Nat->Prop),(∃(d:Nat),I n f 0 w' d)/\∀(n d b:Int) (w':WD) (i:Nat),I n d b w' i->Wif (decide (b<(↑CL:Int))) (Wp AK (Wn b CL (Ri w' AK (b.toNat*1) λx=>CI 11 #[pt z,vi x] w' λr w'=>Wif (decide (r>floor)) (CJ 33 #[pt z,vi x,vi 0,bool high] w' λn s w'=>K (.tuple #[vi n,vi s]) w') (Lt i λm=>I n d (wrap .i64 (b+1)) w' m)))) (K (.tuple #[vi 0,vi 6]) w'))))))):Ret 37 #[pt z,sl AK CL nodesC,vi floor,bool high] w K:=vcA L14 2 [] func37 h
theorem vc11(z:OA)(node:Int)(w:WD)(K:KV)(h:Q (gIf (isP z) ((!isNone z)=true) (∃(x:OA) (b c:Nat),((!isNone z)=true->rd w (pb z) (po z+94)=some (.slice x b c))/\gIf (isP z) ((!isNone z&&!isNone x&&decide (node>=0))=true) (∃(d:OA) (a f:Nat),((!isNone z&&!isNone x&&decide (node>=0))=true->rd w (pb z) (po z+94)=some (.slice d a f))/\Wif (!(!isNone z&&!isNone x&&decide (node>=0)&&decide (node<(↑a:Int)))) (K (vi 0) w) (Wp z (Rs w z 94 λx g i=>Wp x (Wn node g (Rp w x (node.toNat*1) λh=>CI 42 #[pt h] w λn w'=>K (vi n) w')))))))):Ret 11 #[pt z,vi node] w K:=vcA L14 2 [] func11 h
theorem vc237(z:OA)(frame order:Int)(w:WD)(K:KV)(h:Q (gIf (isP z) ((!isNone z)=true) (∃(x:OA) (b c:Nat),((!isNone z)=true->rd w (pb z) (po z+94)=some (.slice x b c))/\Wif (!(!isNone z&&!isNone x)) (K (vi 1) w) (Wp z (∃(x:NI),BB w (pb z) (po z) (AQ .i64 x 0 94)/\CJ 52 #[agg (List.toArray (AQ .i64 x 0 94)),vi frame] w λn a w'=>Wif (a != 0) (K (vi a) w') (Wp z (∃(x:NI),BB w' (pb z) (po z) (AQ .i64 x 0 94)/\CJ 92 #[agg (List.toArray (AQ .i64 x 0 94)),vi n] w' λd h w'=>Wp z (Rs w' z 94 λx f i=>Wp x (Wn n f (Rp w' x (n.toNat*1) λg=>CI 271 #[pt g,vi (wrap .i64 (frame-d)),vi order] w' λn w'=>K (vi n) w')))))))))):Ret 237 #[pt z,vi frame,vi order] w K:=vcA L14 2 [] func237 h
theorem vc33(z:OA)(node order:Int)(high:Bool)(w:WD)(K:KV)(h:Q (gIf (isP z) ((!isNone z)=true) (∃(x:OA) (d f:Nat),((!isNone z)=true->rd w (pb z) (po z+94)=some (.slice x d f))/\Wif (!(!isNone z&&!isNone x)) (K (.tuple #[vi 0,vi 1]) w) (gIf (isP z) ((!isNone z)=true) (∃(x:OA) (g h:Nat),((!isNone z)=true->rd w (pb z) (po z+94)=some (.slice x g h))/\gIf (isP z) ((!isNone z&&!isNone x&&decide (node>=0))=true) (∃(i:OA) (a j:Nat),((!isNone z&&!isNone x&&decide (node>=0))=true->rd w (pb z) (po z+94)=some (.slice i a j))/\Wif (!(!isNone z&&!isNone x&&decide (node>=0)&&decide (node<(↑a:Int)))) (K (.tuple #[vi 0,vi 7]) w) (Wp z (Rs w z 94 λx k o=>Wp x (Wn node k (Rp w x (node.toNat*1) λc=>CJ 91 #[pt c,vi order,bool high] w λn b w'=>Wif (b != 0) (K (.tuple #[vi 0,vi b]) w') (Wp z (∃(x:NI),BB w' (pb z) (po z) (AQ .i64 x 0 94)/\CJ 92 #[agg (List.toArray (AQ .i64 x 0 94)),vi node] w' λl p w'=>K (.tuple #[vi (wrap .i64 (l+n)),vi 0]) w')))))))))))):Ret 33 #[pt z,vi node,vi order,bool high] w K:=vcA L14 2 [] func33 h
end Go.Proofs.YtdgbechegbmpcaaGreatDoor
namespace Go.Proofs.YtdgbechegbmpcaaGreatDoor
open Go Go.Eng Go.Proofs.Tryz
open Go.RowKit Go.Maps Go.Sort Go.Shelf
variable {P:Program}{kt:TypeId}{b:Nat}{m:List (Int×Value)}
def B14:Value->Option (DataW Unit×List MemPlace):=λ_=>some (.lit (.bool true),[])
theorem A1n(hk:P.underlying kt=some (.int .i64)){w:WD}(h:BJ w b m)(hs:m.length<=maxLen) :
 ∃D,w.ownsMap P kt B14 b m.length D/\(intKeys D).Perm (m.map (·.1))/\Maps.size D=m.length:=by
 obtain⟨es,c,h1,h2,h3⟩:=h.ex;have hlen:es.size=m.length:=by
  have:=h3.length_eq;simpa using this
 have hrd:∀x∈es.toList,∃k,x.key=.int .i64 k/\Go.WideElems.rd P kt B14 x=some (.int .i64 k,.lit (.bool true)):=by
  intro x hx;have:enE x∈m.map enK:=h3.mem_iff.1 (List.mem_map.2 ⟨x,hx,rfl⟩);obtain⟨q,hq,hqe⟩:=List.mem_map.1 this;have hxk:x.key=.int .i64 q.1:=(congrArg Prod.fst hqe).symm;have hr:=h.rg q hq;refine⟨q.1,hxk,?_⟩;unfold Go.WideElems.rd;rw [hxk,keyOf_int_mk hk (by simp [Lit.wf,IntKind.min,IntKind.max,IntKind.signed,IntKind.bits];omega)]
  rfl
 refine⟨_,⟨es,c,h1,⟨by omega,h2,λx hx=>?_⟩,by omega,rfl⟩,?_,?_⟩
 .obtain⟨k,_,hr⟩:=hrd x hx;exact⟨_,hr⟩
 .show((es.toList.map (Go.WideElems.rg P kt B14)).foldr DataW.insert []).map (λp=>_root_.Go.intOf p.1) |>.Perm _
  refine((Go.WideShapes.sorted_perm _).map _).trans ?_;rw [List.map_map];have e1:es.toList.map ((λp=>_root_.Go.intOf p.1) ∘ Go.WideElems.rg P kt B14)=(es.toList.map enE).map λq=>match q.1 with|.int _ n=>n|_=>0:=by
   rw [List.map_map];refine List.map_congr_left λx hx=>?_;obtain⟨k,hxk,hr⟩:=hrd x hx;simp [Go.WideElems.rg,hr,hxk,_root_.Go.intOf,enE]
  rw [e1];refine(h3.map _).trans (List.Perm.of_eq ?_);rw [List.map_map]
  rfl
 .show((es.toList.map (Go.WideElems.rg P kt B14)).foldr DataW.insert []).length=_
  rw [(Go.WideShapes.sorted_perm _).length_eq,lmp];simpa using hlen
theorem B8s{mt et:TypeId}(ht:P.underlying mt=some (.map kt et))(hk:P.underlying kt=some (.int .i64)){w:WD}(h:BJ w b m)(hs:m.length<=1000000){ty:TypeId} :
 QO P #[mt] ty (.map (some b)) m.length w:=by
 obtain⟨D,hown,_,hsz⟩:=A1n hk h (by unfold maxLen;omega);have:=hown.len ht ty;rw [hsz] at this;exact⟨this⟩
end Go.Proofs.YtdgbechegbmpcaaGreatDoor
namespace Go.Proofs.YtdgbechegbmpcaaGreatDoor
open Go Go.Eng Go.Proofs.Tryz
open Go.Value (bool func slice agg int)
open Option (isNone)
open Go.IntKind (wrap)
open List (replicate range)
variable {x y:Nat}
theorem vc42(b:OA)(w:WD)(K:KV)(h:Q (gIf (isP b) ((!isNone b)=true) (∃(x:Option Nat),((!isNone b)=true->rd w (pb b) (po b+12)=some (.map x))/\Wif (!(!isNone b&&!isNone x)) (K (vi 0) w) (Wp b (∃(x f g h i j k l o p c:Option Nat),BB w (pb b) (po b+1) [Value.map x,Value.map f,Value.map g,Value.map h,Value.map i,Value.map j,Value.map k,Value.map l,Value.map o,Value.map p,Value.map c]/\∃(I:Int->Int->WD->Nat->Prop),(∃(n:Nat),I 0 0 w n)/\∀(n a:Int) (w':WD) (q:Nat),I n a w' q->Wif (decide (a<11)) (Wn a 11 (∃(d:Option Nat),[Value.map x,Value.map f,Value.map g,Value.map h,Value.map i,Value.map j,Value.map k,Value.map l,Value.map o,Value.map p,Value.map c][a.toNat*1]? = some (.map d)/\∃(x:Int),QO prog #[142] 3 (Value.map d) x w'/\Wif (decide (0<=a)) (Lt q λm=>I (wrap .i64 (n+wrap .i64 (x*2^min (a.toNat) 64))) (wrap .i64 (a+1)) w' m) False)) (K (vi n) w')))))):Ret 42 #[pt b] w K:=vcA L0 1 [] func42 h
theorem vc176(b:OA)(o:Int)(high:Bool)(w:WD)(K:KV)(h:Q (Wp b (Wn o 11 (∃(x:Option Nat),rd w (pb b) (po b+1+o.toNat*1)=some (.map x)/\Calls prog 231 #[Value.map x] w λe w'=>∃(v:Value),e=rT v/\CS 139 #[v] w' λa l c w'=>Wif high (Wp a (Wn (wrap .i64 ((↑l:Int)-1)) l (RI w' (pb a) (po a+Int.toNat (wrap .i64 ((↑l:Int)-1))*1) λx=>K (vi x) w'))) (Wp a (Wn 0 l (Ri w' a 0 λx=>K (vi x) w'))))))):Ret 176 #[pt b,vi o,bool high] w K:=vcA L0 1 [] func176 h
theorem vc174(frames:Int)(w:WD)(K:KV)(h:Q (Wif (decide (frames<1)||decide (frames>128)) (K (.tuple #[pt none,vi 2]) w) (∀w',w'=w.alloc (.map #[] 0)->AW w' (List.toArray ([vi frames]++(replicate 11 (Value.map none)++[Value.map (some w.heap.size)]))) 215 λj=>∃(I:Int->WD->Nat->Prop),(∃(n:Nat),I 0 j n)/\∀(n:Int) (d:WD) (g:Nat),I n d g->Wif (decide (n<11)) (∀b,b=d.alloc (.map #[] 0)->Wn n 11 (Sw b w'.heap.size (1+n.toNat*1) (Value.map (some d.heap.size)) λc=>Lt g λm=>I (wrap .i64 (n+1)) c m)) (∃(I:Int->WD->Nat->Prop),(∃(n:Nat),I 0 d n)/\∀(n:Int) (b:WD) (h:Nat),I n b h->Wif (decide (n<frames)) (∃(f:Int->WD->Nat->Prop),(∃(n:Nat),f 0 b n)/\∀(a:Int) (c:WD) (i:Nat),f a c i->gIf (decide (0<=wrap .i64 (a+1))) (decide (a<10)=true) (gIf (decide (0<=wrap .i64 (a+1))) ((decide (a<10)&&CD BinOp.and IntKind.i64 n (wrap .i64 (wrap .i64 (1*2^min (Int.toNat (wrap .i64 (a+1))) 64)-1))==0)=true) (Wif (decide (a<10)&&CD BinOp.and IntKind.i64 n (wrap .i64 (wrap .i64 (1*2^min (Int.toNat (wrap .i64 (a+1))) 64)-1))==0&&decide (wrap .i64 (n+wrap .i64 (1*2^min (Int.toNat (wrap .i64 (a+1))) 64))<=frames)) (Lt i λm=>f (wrap .i64 (a+1)) c m) (Wn a 11 (∃(x:Option Nat),rd c w'.heap.size (1+a.toNat*1)=some (.map x)/\∃(w':WD),EF prog 142 (Value.map x) (vi n) (bool true) c w'/\Wif (decide (0<=a)) (Lt h λm=>I (wrap .i64 (n+wrap .i64 (1*2^min (a.toNat) 64))) w' m) False))))) (K (.tuple #[AP w'.heap.size,vi 0]) b))))):Ret 174 #[vi frames] w K:=vcA L0 1 [] func174 h
theorem vc91(b:OA)(order:Int)(high:Bool)(w:WD)(K:KV)(h:Q (gIf (isP b) ((!isNone b)=true) (∃(x:Option Nat),((!isNone b)=true->rd w (pb b) (po b+12)=some (.map x))/\Wif (!(!isNone b&&!isNone x)) (K (.tuple #[vi 0,vi 1]) w) (Wif (decide (order<0)||decide (order>10)) (K (.tuple #[vi 0,vi 2]) w) (∃(I:Int->WD->Nat->Prop),(∃(n:Nat),I order w n)/\∀(n:Int) (w':WD) (g:Nat),I n w' g->gIf (isP b) (decide (n<=10)=true) (gIf (inB n 11) (decide (n<=10)=true) (∃(x:Option Nat),(decide (n<=10)=true->rd w' (pb b) (po b+1+n.toNat*1)=some (.map x))/\∃(h:Int),(decide (n<=10)=true->QO prog #[142] 3 (Value.map x) h w')/\Wif (decide (n<=10)&&h==0) (Lt g λm=>I (wrap .i64 (n+1)) w' m) (Wif (decide (n>10)) (K (.tuple #[vi 0,vi 6]) w') (CI 176 #[pt b,vi n,bool high] w' λi w'=>Wp b (Wn n 11 (∃(x:Option Nat),rd w' (pb b) (po b+1+n.toNat*1)=some (.map x)/\∃(d:WD),IG prog #[142,3] 0 (Value.map x) (vi i) w' d/\∃(I:Int->Int->WD->Nat->Prop),(∃(a:Nat),I n i d a)/\∀(n a:Int) (w':WD) (f:Nat),I n a w' f->Wif (decide (n>order)) (Wif high (Wp b (Wn (wrap .i64 (n-1)) 11 (∃(x:Option Nat),rd w' (pb b) (po b+1+Int.toNat (wrap .i64 (n-1))*1)=some (.map x)/\∃(c:WD),EF prog 142 (Value.map x) (vi a) (bool true) w' c/\Wif (decide (0<=wrap .i64 (n-1))) (Lt f λm=>I (wrap .i64 (n-1)) (wrap .i64 (a+wrap .i64 (1*2^min (Int.toNat (wrap .i64 (n-1))) 64))) c m) False))) (Dr w' λj=>Wp b (Wn (wrap .i64 (n-1)) 11 (∃(x:Option Nat),rd j (pb b) (po b+1+Int.toNat (wrap .i64 (n-1))*1)=some (.map x)/\Wif (decide (0<=wrap .i64 (n-1))) (∃(w':WD),EF prog 142 (Value.map x) (vi (wrap .i64 (a+wrap .i64 (1*2^min (Int.toNat (wrap .i64 (n-1))) 64)))) (bool true) j w'/\Lt f λm=>I (wrap .i64 (n-1)) a w' m) False)))) (Wp b (∃(x:Option Nat),rd w' (pb b) (po b+12)=some (.map x)/\∃(c:WD),EF prog 90 (Value.map x) (vi a) (vi order) w' c/\K (.tuple #[vi a,vi 0]) c))))))))))))):Ret 91 #[pt b,vi order,bool high] w K:=vcA L0 1 [] func91 h
theorem vc271(b:OA)(at' order:Int)(w:WD)(K:KV)(h:Q (gIf (isP b) ((!isNone b)=true) (∃(x:Option Nat),((!isNone b)=true->rd w (pb b) (po b+12)=some (.map x))/\Wif (!(!isNone b&&!isNone x)) (K (vi 1) w) (Wp b (∃(x:Option Nat),rd w (pb b) (po b+12)=some (.map x)/\∃(f:Int) (g:Bool),EA prog 90 (Value.map x) (vi at') true (Value.tuple #[vi f,bool g]) w/\Wif (!g||f != order) (K (vi 2) w) (Wp b (∃(x:Option Nat),rd w (pb b) (po b+12)=some (.map x)/\∃(w':WD),IG prog #[90,3] 0 (Value.map x) (vi at') w w'/\∃(I:Int->Int->WD->Nat->Prop),(∃(n:Nat),I at' order w' n)/\∀(n a:Int) (w':WD) (h:Nat),I n a w' h->Dr w' λc=>gIf (isP b) (decide (a<10)=true) (gIf (inB a 11) (decide (a<10)=true) (∃(x:Option Nat),(decide (a<10)=true->rd c (pb b) (po b+1+a.toNat*1)=some (.map x))/\gIf (decide (0<=a)) (decide (a<10)=true) (∃(i:Bool),(decide (a<10)=true->EA prog 142 (Value.map x) (vi (CD BinOp.xor IntKind.i64 n (wrap .i64 (1*2^min (a.toNat) 64)))) false (bool i) c)/\Wif (decide (a<10)&&i) (Dr c λd=>Wp b (Wn a 11 (∃(x:Option Nat),rd d (pb b) (po b+1+a.toNat*1)=some (.map x)/\Wif (decide (0<=a)) (∃(w':WD),IG prog #[142,3] 0 (Value.map x) (vi (CD BinOp.xor IntKind.i64 n (wrap .i64 (1*2^min (a.toNat) 64)))) d w'/\Wif (decide (0<=a)) (Lt h λm=>I (CD BinOp.andNot IntKind.i64 n (wrap .i64 (1*2^min (a.toNat) 64))) (wrap .i64 (a+1)) w' m) False) False))) (Wp b (Wn a 11 (∃(x:Option Nat),rd c (pb b) (po b+1+a.toNat*1)=some (.map x)/\∃(w':WD),EF prog 142 (Value.map x) (vi n) (bool true) c w'/\K (vi 0) w'))))))))))))):Ret 271 #[pt b,vi at',vi order] w K:=vcA L0 1 [] func271 h
structure Bst where
 n:Int
 F:Nat->List Int
 T:List (Int×Int)
abbrev JA(l:List Int):List (Int×Value):=l.map λa=>(a,Value.bool true)
abbrev MN(l:List (Int×Int)):List (Int×Value):=l.map λp=>(p.1,int .i64 p.2)
def B9k(n:Int)(m:Nat->Nat)(t:Nat):List Value:=.int .i64 n::((range 11).map λo=>Value.map (some (m o)))++[.map (some t)]
theorem C2x(n:Int)(m:Nat->Nat)(t:Nat):(B9k n m t)[0]? = some (.int .i64 n):=rfl
theorem B9i(n:Int)(m:Nat->Nat)(t:Nat):(B9k n m t)[12]? = some (.map (some t)):=rfl
theorem C2w(n:Int)(m:Nat->Nat)(t:Nat){o:Nat}(h:o<11):(B9k n m t)[1+o]? = some (.map (some (m o))):=by
 rw [Nat.add_comm];simp only [B9k,List.cons_append,List.getElem?_cons_succ];rw [gal (by simpa using h)];simp [h]
structure BAt(w:WD)(b:Nat)(m:Nat->Nat)(t:Nat)(s:Bst):Prop where
 so:AX w b (B9k s.n m t)
 mf:∀o,o<11->BJ w (m o) (JA (s.F o))
 mt:BJ w t (MN s.T)
 dm:∀o o',o<11->o'<11->o≠o'->m o≠m o'
 dt:∀o,o<11->m o≠t/\m o≠b
 db:t≠b
def GH(b:Nat)(m:Nat->Nat)(t:Nat)(x:Nat):Prop:=x=b\/x=t\/∃o,o<11/\x=m o
section
variable {w w':WD}{b t:Nat}{m:Nat->Nat}{s:Bst}
theorem BAt.kx{X:NP}(h:BAt w b m t s)(k:AB X w w')(hx:∀x,X x->¬GH b m t x):BAt w' b m t s:=
 ⟨h.so.kx k λe=>hx _ e (.inl rfl),λo ho=>(h.mf o ho).kx k λe=>hx _ e (.inr (.inr ⟨o,ho,rfl⟩)),h.mt.kx k λe=>hx _ e (.inr (.inl rfl)),h.dm,h.dt,h.db⟩
theorem BAt.k(h:BAt w b m t s)(k:AB AD w w'):BAt w' b m t s:=h.kx k λ_ e=>e.elim
theorem BAt.lt(h:BAt w b m t s)(hx:GH b m t x):x<w.heap.size:=by
 rcases hx with rfl|rfl|⟨o,ho,rfl⟩
 .exact h.so.lt
 .exact h.mt.lt
 .exact(h.mf o ho).lt
theorem BAt.r0(h:BAt w b m t s):rd w b 0=some (.int .i64 s.n):=(h.so.rd 0).trans (C2x ..)
theorem BAt.r12(h:BAt w b m t s):rd w b 12=some (.map (some t)):=(h.so.rd 12).trans (B9i ..)
theorem BAt.rm(h:BAt w b m t s){o:Nat}(ho:o<11):rd w b (1+o)=some (.map (some (m o))):=(h.so.rd _).trans (C2w _ _ _ ho)
end
def Small(s:Bst):Prop:=∀o,o<11->(s.F o).length<=1000000
section
variable {w w':WD}{b t:Nat}{m:Nat->Nat}{s:Bst}
theorem BAt.len(h:BAt w b m t s)(hs:Small s){o:Nat}(ho:o<11){ty:TypeId}:QO prog #[142] ty (.map (some (m o))) (s.F o).length w:=by
 have:=B8s underlying142 underlying3 (h.mf o ho) (by simpa using hs o ho) (ty:=ty);simpa using this
end
def E0(s:Bst):Nat->Nat
 | 0=>0
 | o+1=>E0 s o+(s.F o).length*2^o
theorem A3q{s:Bst}(hs:Small s):∀k,k<=11->E0 s k<=k*1024000000
 | 0,_=>Nat.zero_le _
 | o+1,h=>by
  have ih:=A3q hs o (by omega);have h1:=hs o (by omega);have h2:2^o<=2^10:=Nat.pow_le_pow_right (by omega) (by omega);have h3:(s.F o).length*2^o<=1000000*2^10:=Nat.mul_le_mul h1 h2;unfold E0;omega
theorem A2l{o:Nat}(hx:x<=1000000)(ho:o<11):wrap .i64 ((x:Int)*2^min (Int.toNat (o:Int)) 64)=((x*2^o:Nat):Int):=by
 have h2:2^o<=2^10:=Nat.pow_le_pow_right (by omega) (by omega);have h3:x*2^o<=1000000*2^10:=Nat.mul_le_mul hx h2;rw [tnc,Nat.min_eq_left (by omega),show((x:Int)*2^o)=((x*2^o:Nat):Int) by simp];rw [wi (by omega)]
section
variable {w w':WD}{b t:Nat}{m:Nat->Nat}{s:Bst}
theorem free_spec(h:BAt w b m t s)(hs:Small s):Calls prog 42 #[AP b] w λr w'=>r=.returned (.int .i64 (E0 s 11))/\w'=w:=by
 refine(vc42 _ w (λv w'=>v=.int .i64 (E0 s 11)/\w'=w) ?_).AE ?_
 .unfold Q;simp only [Ri,Rp,Rs,Wp,Wn,isP_some,Wif_true,gIf_true,pb_some,po_some,za];refine⟨_,λ_=>h.r12,AL rfl ?_⟩;refine⟨_,_,_,_,_,_,_,_,_,_,_,⟨h.rm (o:=0) (by omega),h.rm (o:=1) (by omega),h.rm (o:=2) (by omega),h.rm (o:=3) (by omega),h.rm (o:=4) (by omega),h.rm (o:=5) (by omega),h.rm (o:=6) (by omega),h.rm (o:=7) (by omega),h.rm (o:=8) (by omega),h.rm (o:=9) (by omega),h.rm (o:=10) (by omega)⟩,?_⟩;refine⟨λa k w' n=>w'=w/\∃q:Nat,k=q/\q<=11/\n=11-q/\a=(E0 s q:Nat),⟨11,rfl,0,rfl,by omega,rfl,rfl⟩,?_⟩;rintro _ k w1 n ⟨rfl,q,rfl,hq,rfl,rfl⟩;refine AH (λhc=>?_) (λhc=>?_)
  .have hq0:q<11:=by simp at hc;omega
   refine Wi ⟨some (m q),?_,_,h.len hs hq0,AA (by simp) ⟨11-(q+1),by omega,rfl,q+1,wzz,by omega,rfl,?_⟩⟩
   .rw [tnc,mo]
    match q,hq0 with
    | 0,_|1,_|2,_|3,_|4,_|5,_|6,_|7,_|8,_|9,_|10,_=>rfl
   .have h1:=A3q hs (q+1) (by omega);rw [A2l (hs q hq0) hq0];have e1:E0 s (q+1)=E0 s q+(s.F q).length*2^q:=rfl;rw [e1] at h1 ⊢;rw [wi (by omega)];omega
  .have hq0:q=11:=by simp at hc;omega
   subst hq0;exact⟨rfl,rfl⟩
 .rintro e w' ⟨v,rfl,rfl,hw⟩;exact⟨rfl,hw⟩
end
theorem H7(x:Nat):BitVec.ofInt 64 (x:Int)=BitVec.ofNat 64 x:=by simp
theorem B7m(hx:x<2^62)(hy:y<2^62):CD .xor .i64 x y=((x ^^^ y:Nat):Int):=by
 have h:x ^^^ y<2^62:=Nat.xor_lt_two_pow hx hy
 show wrap .i64 ((BitVec.ofInt 64 (x:Int) ^^^ BitVec.ofInt 64 (y:Int)).toNat:Int)=_
 rw [H7,H7,BitVec.toNat_xor,BitVec.toNat_ofNat,BitVec.toNat_ofNat,Nat.mod_eq_of_lt (by omega),Nat.mod_eq_of_lt (by omega),wi (by omega)]
theorem B3r(hx:x<2^62)(hy:y<2^62):CD .and .i64 x y=((x &&& y:Nat):Int):=by
 have h:x &&& y<2^62:=Nat.and_lt_two_pow _ hy
 show wrap .i64 ((BitVec.ofInt 64 (x:Int) &&& BitVec.ofInt 64 (y:Int)).toNat:Int)=_
 rw [H7,H7,BitVec.toNat_and,BitVec.toNat_ofNat,BitVec.toNat_ofNat,Nat.mod_eq_of_lt (by omega),Nat.mod_eq_of_lt (by omega),wi (by omega)]
theorem B7l(q:Nat):q ^^^ 1=if q%2=0 then q+1 else q-1:=by
 apply Nat.eq_of_testBit_eq;intro i
 cases i with
 | zero=>
  rw [Nat.testBit_xor];simp only [Nat.testBit_zero];split <;> rename_i h
  .rw [show(q+1)%2=1 by omega,h];rfl
  .rw [show(q-1)%2=0 by omega,show q%2=1 by omega];rfl
 | succ i=>
  rw [Nat.testBit_xor,Nat.testBit_succ,Nat.testBit_succ,Nat.testBit_succ];split
  .rw [show(q+1)/2=q/2 by omega];simp
  .rw [show(q-1)/2=q/2 by omega];simp
theorem A9t(q o:Nat):(q*2^o) ^^^ 2^o=(if q%2=0 then q+1 else q-1)*2^o:=by
 have h:=Nat.shiftLeft_xor_distrib (a:=q) (b:=1) (i:=o);rw [Nat.shiftLeft_eq,Nat.shiftLeft_eq,Nat.shiftLeft_eq,Nat.one_mul,B7l] at h;exact h.symm
theorem B3k(a b:BitVec 64):a &&& ~~~b=a ^^^ (a &&& b):=by
 ext i hi
 simp only [BitVec.getElem_and,BitVec.getElem_not,BitVec.getElem_xor]
 cases a[i] <;> cases b[i] <;> rfl
theorem A9m(hx:x<2^62)(hy:y<2^62):CD .andNot .i64 x y=((x ^^^ (x &&& y):Nat):Int):=by
 have h1:x &&& y<2^62:=Nat.and_lt_two_pow _ hy;have h:x ^^^ (x &&& y)<2^62:=Nat.xor_lt_two_pow hx h1
 show wrap .i64 ((BitVec.ofInt 64 (x:Int) &&& ~~~BitVec.ofInt 64 (y:Int)).toNat:Int)=_
 rw [B3k,H7,H7,BitVec.toNat_xor,BitVec.toNat_and,BitVec.toNat_ofNat,BitVec.toNat_ofNat,Nat.mod_eq_of_lt (by omega),Nat.mod_eq_of_lt (by omega),wi (by omega)]
theorem B9r(q o:Nat):(q*2^o) &&& 2^o=(q%2)*2^o:=by
 have h:=Nat.shiftLeft_and_distrib (a:=q) (b:=1) (i:=o);rw [Nat.shiftLeft_eq,Nat.shiftLeft_eq,Nat.shiftLeft_eq,Nat.one_mul,Nat.and_one_is_mod] at h;exact h.symm
theorem A9l(q o:Nat):(q*2^o) ^^^ ((q*2^o) &&& 2^o)=(q-q%2)*2^o:=by
 rw [B9r];by_cases h:q%2=0
 .rw [h,Nat.zero_mul,Nat.xor_zero,Nat.sub_zero]
 .have h1:q%2=1:=by omega
  rw [h1,Nat.one_mul,A9t,if_neg h]
def OE(n:Int)(m:Nat->Nat)(t k:Nat):List Value:=.int .i64 n::((range 11).map λo=>if o<k then Value.map (some (m o)) else .map none)++[.map (some t)]
theorem B9j(n:Int)(m:Nat->Nat)(t:Nat):OE n m t 0=[int .i64 n]++(replicate 11 (.map none)++[.map (some t)]):=rfl
theorem B6g(n:Int)(m:Nat->Nat)(t:Nat):OE n m t 11=B9k n m t:=by
 unfold OE B9k;congr 2
theorem A32(n:Int)(m:Nat->Nat)(t k:Nat):(OE n m t k).length=13:=by simp [OE]
theorem B3l(n:Int)(m:Nat->Nat)(t:Nat){k:Nat}(hk:k<11)(x:Nat):(OE n m t k).set (1+k) (.map (some x))=OE n (upd m k x) t (k+1):=by
 apply List.ext_getElem?;intro i;rw [List.getElem?_set,A32];unfold OE
 cases i with
 | zero=>simp
 | succ j=>
  simp only [List.cons_append,List.getElem?_cons_succ];by_cases hj:j<11
  .rw [gal (by simpa using hj),gal (by simpa using hj)];simp only [gmp,List.getElem?_range hj,Option.map_some];by_cases hjk:j=k
   .subst hjk;rw [if_pos (by omega),if_pos (by omega),if_pos (by omega),AF]
   .rw [if_neg (by omega)];by_cases hlt:j<k
    .rw [if_pos hlt,if_pos (by omega),AI _ _ hjk]
    .rw [if_neg hlt,if_neg (by omega)]
  .rw [if_neg (by omega),gar (by simp;omega),gar (by simp;omega)];simp
end Go.Proofs.YtdgbechegbmpcaaGreatDoor
namespace Go.Proofs.YtdgbechegbmpcaaGreatDoor
structure Bk where
 p:Nat
 o:Nat
 g:Nat
def D0:Nat->List Bk->Nat->Prop
 | a,[],b=>a=b
 | a,x::l,b=>x.p=a/\a%2^x.o=0/\x.o<=10/\D0 (a+2^x.o) l b
theorem p2(o:Nat):0<2^o:=Nat.two_pow_pos o
theorem JV {l1 l2:List Bk}{a b:Nat}:D0 a (l1++l2) b↔∃c,D0 a l1 c/\D0 c l2 b:=by
  induction l1 generalizing a with
  | nil=>simp [D0]
  | cons x l ih => simp only [List.cons_append, D0, ih]; constructor
                   . rintro ⟨h1, h2, h3, c, h4, h5⟩; exact ⟨c, ⟨h1, h2, h3, h4⟩, h5⟩
                   . rintro ⟨c,⟨h1,h2,h3,h4⟩,h5⟩;exact⟨h1,h2,h3,c,h4,h5⟩
theorem RW{l:List Bk}{a b:Nat}(h:D0 a l b):a+l.length<=b:=by
 induction l generalizing a with
 | nil=>simp [D0] at h;simp;omega
 | cons x l ih=>have:=ih h.2.2.2;have:=p2 x.o;simp;omega
theorem BI{l:List Bk}{a b:Nat}(h:D0 a l b){x:Bk}(hx:x∈l):a<=x.p/\x.p+2^x.o<=b/\x.p%2^x.o=0/\x.o<=10:=by
 induction l generalizing a with
 | nil=>simp at hx
 | cons y l ih=>
  obtain⟨h1,h2,h3,h4⟩:=h;rcases List.mem_cons.1 hx with rfl|hx
  .have:=RW h4;exact⟨by omega,by omega,by rw [h1];exact h2,h3⟩
  .have hh:=ih h4 hx;have:=p2 y.o;exact⟨by omega,hh.2.1,hh.2.2⟩
theorem A95{l:List Bk}{a b:Nat}(h:D0 a l b):l.Pairwise λx y=>x.p+2^x.o<=y.p:=by
 induction l generalizing a with
 | nil=>exact List.Pairwise.nil
 | cons y l ih=>
  obtain⟨h1,h2,h3,h4⟩:=h;refine List.Pairwise.cons (λx hx=>?_) (ih h4);have:=(BI h4 hx).1;omega
theorem LX{l:List Bk}{a b:Nat}(h:D0 a l b){x y:Bk}(hx:x∈l)(hy:y∈l)(e:x.p=y.p):x=y:=by
 induction l generalizing a with
 | nil=>simp at hx
 | cons z l ih=>
  obtain⟨h1,h2,h3,h4⟩:=h;have hz:=p2 z.o;rcases List.mem_cons.1 hx with rfl|hx'
  .rcases List.mem_cons.1 hy with rfl|hy
   .rfl
   .have:=(BI h4 hy).1;omega
  .rcases List.mem_cons.1 hy with rfl|hy
   .have:=(BI h4 hx').1;omega
   .exact ih h4 hx' hy
theorem FC{A B:List Bk}{x:Bk}{a b:Nat}(h:D0 a (A++x::B) b):D0 a A x.p/\D0 (x.p+2^x.o) B b/\x.p%2^x.o=0/\x.o<=10:=by
 obtain⟨c,h1,h2,h3,h4,h5⟩:=JV.1 h;subst h2;exact⟨h1,h5,h3,h4⟩
theorem EN{A B:List Bk}{x:Bk}{a b:Nat}(h1:D0 a A x.p)(h2:D0 (x.p+2^x.o) B b)(h3:x.p%2^x.o=0)(h4:x.o<=10):D0 a (A++x::B) b:=
 JV.2 ⟨_,h1,rfl,h3,h4,h2⟩
theorem NC{A B:List Bk}{x:Bk}{a b:Nat}(h:D0 a (A++x::B) b):(∀y∈A,y.p+2^y.o<=x.p)/\(∀y∈B,x.p+2^x.o<=y.p):=by
 obtain⟨h1,h2,h3⟩:=FC h;exact⟨λy hy=>(BI h1 hy).2.1,λy hy=>(BI h2 hy).1⟩
theorem A96{A:List Bk}{a b:Nat}(h:D0 a A b)(hne:a<b):∃A' y,A=A'++[y]/\y.p+2^y.o=b/\D0 a A' y.p:=by
 rcases List.eq_nil_or_concat A with rfl|⟨A',y,rfl⟩
 .simp [D0] at h;omega
 .rw [List.concat_eq_append] at h ⊢;obtain⟨c,h1,h2,h3,h4,h5⟩:=JV.1 h;simp only [D0] at h5;exact⟨A',y,rfl,by omega,by rw [h2];exact h1⟩
theorem A7w{B:List Bk}{a b:Nat}(h:D0 a B b)(hne:a<b):∃y B',B=y::B'/\y.p=a/\D0 (a+2^y.o) B' b:=by
 cases B with
 | nil=>simp [D0] at h;omega
 | cons y B'=>exact⟨y,B',rfl,h.1,h.2.2.2⟩
def NB(l:List Bk):Prop:=∀x∈l,∀y∈l,x.g=0->y.g=0->x.o=y.o->x.o<10->y.p=x.p+2^x.o->x.p%2^(x.o+1)=0->False
theorem NB.sub{l l':List Bk}(h:NB l)(hs:∀x∈l',x.g=0->x∈l):NB l':=λx hx y hy gx gy=>h x (hs x hx gx) y (hs y hy gy) gx gy
theorem mod_le{a o1 o2:Nat}(h:a%2^o2=0)(hl:o1<=o2):a%2^o1=0:=
 Nat.mod_eq_zero_of_dvd (Nat.dvd_trans (Nat.pow_dvd_pow 2 hl) (Nat.dvd_of_mod_eq_zero h))
theorem B1g{a b o:Nat}(h:a%2^o=0)(hb:b%2^o=0):(a+b)%2^o=0:=
 Nat.mod_eq_zero_of_dvd (Nat.dvd_add (Nat.dvd_of_mod_eq_zero h) (Nat.dvd_of_mod_eq_zero hb))
def C7r(l:List Bk):Prop:=∀x∈l,x.g=0\/x.g=1
structure Inv(n:Nat)(l:List Bk):Prop where
 n1:1<=n/\n<=128
 tl:D0 0 l n
 nb:NB l
 g01:C7r l
def fr(o:Nat)(l:List Bk):List Int:=(l.filter λx=>x.g==0&&x.o==o).map λx=>(x.p:Int)
def tk(l:List Bk):List (Int×Int):=(l.filter λx=>x.g==1).map λx=>((x.p:Int),(x.o:Int))
def BD:List Bk->Nat
 | []=>0
 | x::l=>(if x.g=0 then 2^x.o else 0)+BD l
@[simp] theorem fr_nil (o:Nat):fr o []=[]:=rfl
@[simp] theorem tk_nil:tk []=[]:=rfl
theorem EI(o:Nat)(l l':List Bk):fr o (l++l')=fr o l++fr o l':=by simp [fr]
theorem JD(l l':List Bk):tk (l++l')=tk l++tk l':=by simp [tk]
theorem C1u{o:Nat}{x:Bk}(l:List Bk)(hg:x.g=0)(ho:x.o=o):fr o (x::l)=(x.p:Int)::fr o l:=by simp [fr,hg,ho]
theorem C4x{o:Nat}{x:Bk}(l:List Bk)(h:¬(x.g=0/\x.o=o)):fr o (x::l)=fr o l:=by
 unfold fr;rw [List.filter_cons_of_neg (by simpa using h)]
theorem C0h{x:Bk}(l:List Bk)(hg:x.g=1):tk (x::l)=((x.p:Int),(x.o:Int))::tk l:=by simp [tk,hg]
theorem C36{x:Bk}(l:List Bk)(h:x.g≠1):tk (x::l)=tk l:=by
 unfold tk;rw [List.filter_cons_of_neg (by simpa using h)]
theorem IV{o:Nat}{l:List Bk}{k:Int}:k∈fr o l↔∃x∈l,x.g=0/\x.o=o/\(x.p:Int)=k:=by
 unfold fr;constructor
 .intro h;obtain⟨x,hx,e⟩:=List.mem_map.1 h;obtain⟨h1,h2⟩:=List.mem_filter.1 hx;simp only [Bool.and_eq_true,beq_iff_eq] at h2;exact⟨x,h1,h2.1,h2.2,e⟩
 .rintro ⟨x,h1,h2,h3,e⟩;exact List.mem_map.2 ⟨x,List.mem_filter.2 ⟨h1,by simp [h2,h3]⟩,e⟩
theorem A6h{l:List Bk}{k j:Int}:(k,j)∈tk l↔∃x∈l,x.g=1/\(x.p:Int)=k/\(x.o:Int)=j:=by
 unfold tk;constructor
 .intro h;obtain⟨x,hx,e⟩:=List.mem_map.1 h;obtain⟨h1,h2⟩:=List.mem_filter.1 hx;simp only [beq_iff_eq] at h2;simp only [Prod.mk.injEq] at e;exact⟨x,h1,h2,e.1,e.2⟩
 .rintro ⟨x,h1,h2,h3,e⟩;exact List.mem_map.2 ⟨x,List.mem_filter.2 ⟨h1,by simp [h2]⟩,by simp [h3,e]⟩
theorem J8(l l':List Bk):BD (l++l')=BD l+BD l':=by
 induction l with
 | nil=>simp [BD]
 | cons x l ih=>simp only [List.cons_append,BD,ih];omega
theorem B0i{A B:List Bk}{x:Bk}{a b:Nat}(h:D0 a (A++x::B) b){k:Nat}(h1:x.p<=k)(h2:k<x.p+2^x.o):(∀y∈A,y.p≠k)/\(∀y∈B,y.p≠k):=by
 obtain⟨hA,hB⟩:=NC h;refine⟨λy hy=>?_,λy hy=>?_⟩
 .have:=hA y hy;have:=p2 y.o;omega
 .have:=hB y hy;omega
structure Mid(n:Nat)(A:List Bk)(x:Bk)(B:List Bk):Prop where
 n1:1<=n/\n<=128
 tl:D0 0 (A++x::B) n
 nb:NB (A++B)
 g01:C7r (A++B)
theorem Inv.mid{n:Nat}{A B:List Bk}{x y:Bk}(h:Inv n (A++x::B))(e:y.p=x.p)(e':y.o=x.o):Mid n A y B:=by
 refine⟨h.n1,?_,h.nb.sub λz hz _=>by simp at hz ⊢;rcases hz with h|h <;> simp [h],λz hz=>h.g01 z (by simp at hz ⊢;rcases hz with h|h <;> simp [h])⟩;obtain⟨h1,h2,h3,h4⟩:=FC h.tl;exact EN (by rw [e];exact h1) (by rw [e,e'];exact h2) (by rw [e,e'];exact h3) (by rw [e'];exact h4)
theorem Mid.num{n:Nat}{A B:List Bk}{x:Bk}(h:Mid n A x B):x.p+2^x.o<=n/\x.o<=7/\x.p%2^x.o=0:=by
 have:=BI h.tl (x:=x) (by simp);refine⟨this.2.1,?_,this.2.2.1⟩;refine Nat.le_of_not_lt λhlt=>?_;have h8:=Nat.pow_le_pow_right (n:=2) (by omega) (show 8<=x.o from hlt);have:=h.n1;omega
theorem Mid.lo{n:Nat}{A B:List Bk}{a o g g':Nat}(h:Mid n A ⟨a,o+1,g⟩ B):Mid n A ⟨a,o,g'⟩ (⟨a+2^o,o,0⟩::B):=by
 obtain⟨h1,h2,h3,h4⟩:=FC h.tl;dsimp only at h1 h2 h3 h4;have e2:2^(o+1)=2^o+2^o:=by rw [Nat.pow_succ];omega
 refine⟨h.n1,EN h1 ⟨rfl,B1g (mod_le (o1:=o) h3 (by omega)) (Nat.mod_self _),by dsimp only;omega,by dsimp only;rw [Nat.add_assoc,<- e2];exact h2⟩ (mod_le (o1:=o) h3 (by omega)) (by dsimp only;omega),?_,?_⟩
 .obtain⟨hA,hB⟩:=NC h.tl;dsimp only at hA hB;intro x hx y hy gx gy eo lt ep em;have hp:=p2 o;have mx:x∈A++B\/x=⟨a+2^o,o,0⟩:=by simp at hx ⊢;rcases hx with h|h|h <;> simp [h]
  have my:y∈A++B\/y=⟨a+2^o,o,0⟩:=by simp at hy ⊢;rcases hy with h|h|h <;> simp [h]
  rcases mx with mx|rfl
  .rcases my with my|rfl
   .exact h.nb x mx y my gx gy eo lt ep em
   .dsimp only at eo ep;have:x.p=a:=by rw [eo] at ep;omega
    rcases List.mem_append.1 mx with hm|hm
    .have:=hA x hm;have:=p2 x.o;omega
    .have:=hB x hm;have:=p2 x.o;omega
  .rcases my with my|rfl
   .dsimp only at em;have d:=(Nat.dvd_add_right (Nat.dvd_of_mod_eq_zero h3)).1 (Nat.dvd_of_mod_eq_zero em);have:=Nat.le_of_dvd hp d;omega
   .dsimp only at ep;omega
 .intro x hx;have mx:x∈A++B\/x=⟨a+2^o,o,0⟩:=by simp at hx ⊢;rcases hx with h|h|h <;> simp [h]
  rcases mx with mx|rfl
  .exact h.g01 x mx
  .exact .inl rfl
theorem Mid.hi{n:Nat}{A B:List Bk}{a o g g':Nat}(h:Mid n A ⟨a,o+1,g⟩ B):Mid n (A++[⟨a,o,0⟩]) ⟨a+2^o,o,g'⟩ B:=by
 obtain⟨h1,h2,h3,h4⟩:=FC h.tl;dsimp only at h1 h2 h3 h4;have e2:2^(o+1)=2^o+2^o:=by rw [Nat.pow_succ];omega
 refine⟨h.n1,EN (JV.2 ⟨a,h1,rfl,mod_le (o1:=o) h3 (by omega),by dsimp only;omega,rfl⟩) (by dsimp only;rw [Nat.add_assoc,<- e2];exact h2) (B1g (mod_le (o1:=o) h3 (by omega)) (Nat.mod_self _)) (by dsimp only;omega),?_,?_⟩
 .obtain⟨hA,hB⟩:=NC h.tl;dsimp only at hA hB;intro x hx y hy gx gy eo lt ep em;have hp:=p2 o;have mx:x∈A++B\/x=⟨a,o,0⟩:=by simp at hx ⊢;rcases hx with h|h|h <;> simp [h]
  have my:y∈A++B\/y=⟨a,o,0⟩:=by simp at hy ⊢;rcases hy with h|h|h <;> simp [h]
  rcases mx with mx|rfl
  .rcases my with my|rfl
   .exact h.nb x mx y my gx gy eo lt ep em
   .dsimp only at eo ep;rw [eo] at ep em;have d:=(Nat.dvd_add_right (Nat.dvd_of_mod_eq_zero em)).1 (by rw [<- ep];exact Nat.dvd_of_mod_eq_zero h3);have:=Nat.le_of_dvd hp d;omega
  .rcases my with my|rfl
   .dsimp only at ep;rcases List.mem_append.1 my with hm|hm
    .have:=hA y hm;have:=p2 y.o;omega
    .have:=hB y hm;have:=p2 y.o;omega
   .dsimp only at ep;omega
 .intro x hx;have mx:x∈A++B\/x=⟨a,o,0⟩:=by simp at hx ⊢;rcases hx with h|h|h <;> simp [h]
  rcases mx with mx|rfl
  .exact h.g01 x mx
  .exact .inl rfl
theorem Mid.take{n:Nat}{A B:List Bk}{a o g:Nat}(h:Mid n A ⟨a,o,g⟩ B):Inv n (A++⟨a,o,1⟩::B):=by
 obtain⟨h1,h2,h3,h4⟩:=FC h.tl;refine⟨h.n1,EN h1 h2 h3 h4,h.nb.sub λz hz gz=>?_,λz hz=>?_⟩
 .simp at hz ⊢;rcases hz with h|rfl|h
  .simp [h]
  .cases gz
  .simp [h]
 .simp at hz;rcases hz with h'|rfl|h'
  .exact h.g01 z (by simp [h'])
  .exact .inr rfl
  .exact h.g01 z (by simp [h'])
def bud(a o:Nat):Nat:=if a/2^o%2=0 then a+2^o else a-2^o
theorem KR{a o:Nat}(h:a%2^o=0):a/2^o%2=0↔a%2^(o+1)=0:=by
 have hp:=p2 o;have e:=Nat.div_add_mod a (2^o);rw [h,Nat.add_zero] at e;rw [Nat.pow_succ,Nat.mod_mul,h];simp only [Nat.zero_add,Nat.mul_eq_zero];omega
theorem Mid.free{n:Nat}{A B:List Bk}{a o g:Nat}(h:Mid n A ⟨a,o,g⟩ B)(hb:o<10->((bud a o:Nat):Int)∉fr o (A++B)):Inv n (A++⟨a,o,0⟩::B):=by
 obtain⟨h1,h2,h3,h4⟩:=FC h.tl;dsimp only at h3;refine⟨h.n1,EN h1 h2 h3 h4,?_,λz hz=>?_⟩
 .intro x hx y hy gx gy eo lt ep em;have mx:x∈A++B\/x=⟨a,o,0⟩:=by simp at hx ⊢;rcases hx with h|h|h <;> simp [h]
  have my:y∈A++B\/y=⟨a,o,0⟩:=by simp at hy ⊢;rcases hy with h|h|h <;> simp [h]
  rcases mx with mx|rfl
  .rcases my with my|rfl
   .exact h.nb x mx y my gx gy eo lt ep em
   .dsimp only at eo ep;rw [eo] at ep em lt;refine hb lt (IV.2 ⟨x,mx,gx,eo,?_⟩);unfold bud;rw [if_neg (λe=>?_)]
    .omega
    .rw [KR h3,ep] at e;have d:=(Nat.dvd_add_right (Nat.dvd_of_mod_eq_zero em)).1 (Nat.dvd_of_mod_eq_zero e);have:=Nat.le_of_dvd (p2 o) d;rw [Nat.pow_succ] at this;have:=p2 o;omega
  .rcases my with my|rfl
   .dsimp only at eo ep em lt;refine hb lt (IV.2 ⟨y,my,gy,eo.symm,?_⟩);unfold bud;rw [if_pos ((KR h3).2 em),ep]
   .have:=p2 o;dsimp only at ep;omega
 .simp at hz;rcases hz with h'|rfl|h'
  .exact h.g01 z (by simp [h'])
  .exact .inl rfl
  .exact h.g01 z (by simp [h'])
theorem Mid.one{n:Nat}{A B:List Bk}{a o g g':Nat}(h:Mid n A ⟨a,o,g⟩ B)(ho:o<10)(hb:((bud a o:Nat):Int)∈fr o (A++B)) :
 (a/2^o%2=0/\∃B',B=⟨a+2^o,o,0⟩::B'/\Mid n A ⟨a,o+1,g'⟩ B')\/(a/2^o%2=1/\∃A',A=A'++[⟨a-2^o,o,0⟩]/\2^o<=a/\Mid n A' ⟨a-2^o,o+1,g'⟩ B):=by
 obtain⟨h1,h2,h3,h4⟩:=FC h.tl;dsimp only at h1 h2 h3 h4;obtain⟨⟨yp,yo,yg⟩,hy,gy,oy,py⟩:=IV.1 hb;dsimp only at gy oy py;subst gy oy;have hp:=p2 yo;have e2:2^(yo+1)=2^yo+2^yo:=by rw [Nat.pow_succ];omega
 have py':yp=bud a yo:=by omega
 obtain⟨hA,hB⟩:=NC h.tl;dsimp only at hA hB;unfold bud at py';split at py' <;> rename_i hev
 .left;refine⟨hev,?_⟩;rcases List.mem_append.1 hy with hm|hm
  .have:=hA _ hm;dsimp only at this;omega
  .have hle:=BI h2 hm;dsimp only at hle;obtain⟨z,B',rfl,ez,hz⟩:=A7w h2 (by omega);have:z=⟨yp,yo,0⟩:=LX h2 (by simp) hm (by dsimp only;omega);subst this;dsimp only at ez hz;subst ez;refine⟨B',rfl,h.n1,EN h1 (by dsimp only;rw [e2,<- Nat.add_assoc];exact hz) ((KR h3).1 hev) (by dsimp only;omega),h.nb.sub λz hz _=>?_,λz hz=>h.g01 z ?_⟩ <;>
   .simp at hz ⊢;rcases hz with h|h <;> simp [h]
 .right;have hod:a/2^yo%2=1:=by omega
  have hle:2^yo<=a:=by
   refine Nat.le_of_not_lt λhlt=>?_;rw [Nat.div_eq_of_lt hlt] at hod
   cases hod
  refine⟨hod,?_⟩;rcases List.mem_append.1 hy with hm|hm
  .obtain⟨A',z,rfl,ez,hz⟩:=A96 h1 (by omega);have hs:=A95 h1;have:z=⟨yp,yo,0⟩:=by
    simp at hm;rcases hm with hm|hm
    .have:=(List.pairwise_append.1 hs).2.2 _ hm z (by simp);dsimp only at this;have:=p2 z.o;omega
    .exact hm.symm
   subst this;dsimp only at ez hz;subst py';have hm2:(a-2^yo)%2^(yo+1)=0:=by
    have hm3:(a-2^yo)%2^yo=0:=by
     have:=Nat.mod_eq_zero_of_dvd (Nat.dvd_sub (Nat.dvd_of_mod_eq_zero h3) (Nat.dvd_refl (2^yo)));exact this
    rw [<- KR hm3];have:(a-2^yo)/2^yo=a/2^yo-1:=by
     have:=Nat.sub_mul_div a (2^yo) 1;rw [Nat.mul_one] at this;exact this
    rw [this];omega
   refine⟨A',rfl,hle,h.n1,EN hz (by dsimp only;rw [e2,<- Nat.add_assoc,Nat.sub_add_cancel hle];exact h2) hm2 (by dsimp only;omega),h.nb.sub λz hz _=>?_,λz hz=>h.g01 z ?_⟩ <;>
   .simp at hz ⊢;rcases hz with h|h <;> simp [h]
  .have:=hB _ hm;dsimp only at this;omega
