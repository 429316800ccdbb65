/- Texts of the proof, part 6: Gk4, LawRn. -/
import Derived.Test.YtpijeomnplmakaaGreatDoorRR5
/- The statements' examples: alive is true. -/
namespace Go.Proofs.YtpijeomnplmakaaGreatDoor
open Go.RowKit

/-- What the operations of the last region stand behind, set, look at. -/
def aliveR : List RowN := [(0, 4835703278458516698824704, 4), (1, 9671406556917033397649408, 4835703278458516698824704), (2, 19342813113834066795298816, 9671406556917033397649408), (4, 38685626227668133590597632, 19342813113834066795298818), (4,
  77371252455336267181195264, 19342813113834066795298816), (28, 154742504910672534362390528, 135399691796838467567091712), (36, 309485009821345068724781056, 174085318024506601157689344), (96, 618970019642690137449562112,
  309485009821345068724781056), (128, 1237940039285380274899124224, 618970019642690137449562128), (384, 2475880078570760549798248448, 1856910058928070412348686336), (640, 4951760157141521099596496896, 3094850098213450687247810560),
  (1152, 9903520314283042199192993792, 4951760157141521099596496896), (2048, 19807040628566084398385987584, 9903520314283042199192993800), (6144, 39614081257132168796771975168, 29710560942849126597578981376), (10240,
  79228162514264337593543950336, 49517601571415210995964968960), (18432, 158456325028528675187087900672, 79228162514264337593543950336), (32768, 316912650057057350374175801344, 158456325028528675187087900736), (98304,
  633825300114114700748351602688, 475368975085586025561263702016), (163840, 1267650600228229401496703205376, 792281625142643375935439503360), (294912, 2535301200456458802993406410752, 1267650600228229401496703205376), (524288,
  5070602400912917605986812821504, 2535301200456458802993406410784), (524288, 10141204801825835211973625643008, 2535301200456458802993406410752), (524288, 20282409603651670423947251286016, 2535301200456458802993406410752), (6815744,
  40564819207303340847894502572032, 32958915605933964438914283339776), (9961472, 81129638414606681695789005144064, 48170722808672717256874721804288), (17301504, 162259276829213363391578010288128, 83664939615063140498782411554816),
  (50331648, 324518553658426726783156020576256, 162259276829213363391578010288128), (67108864, 649037107316853453566312041152512, 324518553658426726783156020576512), (201326592, 1298074214633706907132624082305024,
  973555660975280180349468061728768), (335544320, 2596148429267413814265248164610048, 1622592768292133633915780102881280), (603979776, 5192296858534827628530496329220096, 2596148429267413814265248164610048), (1073741824,
  10384593717069655257060992658440192, 5192296858534827628530496329220224), (1073741824, 20769187434139310514121985316880384, 5192296858534827628530496329220096), (7516192768, 41538374868278621028243970633760768,
  36346078009743793399713474304540672), (9663676416, 83076749736557242056487941267521536, 46730671726813448656774466962980864), (25769803776, 166153499473114484112975882535043072, 83076749736557242056487941267521536), (34359738368,
  332306998946228968225951765070086144, 166153499473114484112975882535044096), (103079215104, 664613997892457936451903530140172288, 498460498419343452338927647605129216), (171798691840, 1329227995784915872903807060280344576,
  830767497365572420564879412675215360), (309237645312, 2658455991569831745807614120560689152, 1329227995784915872903807060280344576), (549755813888, 5316911983139663491615228241121378304, 2658455991569831745807614120560689664),
  (549755813888, 10633823966279326983230456482242756608, 2658455991569831745807614120560689152), (549755813888, 21267647932558653966460912964485513216, 2658455991569831745807614120560689152), (7146825580544,
  42535295865117307932921825928971026432, 34559927890407812695498983567288958976), (10445360463872, 85070591730234615865843651857942052864, 50510663839826803170344668290653093888), (18141941858304,
  170141183460469231731687303715884105728, 87729047721804447611651265978502742016), (52776558133248, 340282366920938463463374607431768211456, 170141183460469231731687303715884105728), (70368744177664,
  680564733841876926926749214863536422912, 340282366920938463463374607431768215552), (211106232532992, 1361129467683753853853498429727072845824, 1020847100762815390390123822295304634368), (351843720888320,
  2722258935367507707706996859454145691648, 1701411834604692317316873037158841057280), (633318697598976, 5444517870735015415413993718908291383296, 2722258935367507707706996859454145691648), (1125899906842624,
  10889035741470030830827987437816582766592, 5444517870735015415413993718908291385344), (1125899906842624, 21778071482940061661655974875633165533184, 5444517870735015415413993718908291383296), (7881299347898368,
  43556142965880123323311949751266331066368, 38111625095145107907897956032358039683072), (10133099161583616, 87112285931760246646623899502532662132736, 49000660836615138738725943470174622449664), (27021597764222976,
  174224571863520493293247799005065324265472, 87112285931760246646623899502532662132736), (36028797018963968, 348449143727040986586495598010130648530944, 174224571863520493293247799005065324281856), (108086391056891904,
  696898287454081973172991196020261297061888, 522673715590561479879743397015195972796416), (180143985094819840, 1393796574908163946345982392040522594123776, 871122859317602466466238995025326621327360), (324259173170675712,
  2787593149816327892691964784081045188247552, 1393796574908163946345982392040522594123776), (576460752303423488, 5575186299632655785383929568162090376495104, 2787593149816327892691964784081045188255744), (576460752303423488,
  11150372599265311570767859136324180752990208, 2787593149816327892691964784081045188247552), (4035225266123964416, 22300745198530623141535718272648361505980416, 19513152048714295248843753488567316317732864), (5188146770730811392,
  44601490397061246283071436545296723011960832, 25088338348346951034227683056729406694227968), (13835058055282163712, 89202980794122492566142873090593446023921664, 44601490397061246283071436545296723011960832),
  (18446744073709551616, 178405961588244985132285746181186892047843328, 89202980794122492566142873090593446023987200), (55340232221128654848, 356811923176489970264571492362373784095686656,
  267608942382367477698428619271780338071764992), (92233720368547758080, 713623846352979940529142984724747568191373312, 446014903970612462830714365452967230119608320), (166020696663385964544,
  1427247692705959881058285969449495136382746624, 713623846352979940529142984724747568191373312), (295147905179352825856, 2854495385411919762116571938898990272765493248, 1427247692705959881058285969449495136382779392),
  (295147905179352825856, 5708990770823839524233143877797980545530986496, 1427247692705959881058285969449495136382746624), (295147905179352825856, 11417981541647679048466287755595961091061972992,
  1427247692705959881058285969449495136382746624), (3836922767331586736128, 22835963083295358096932575511191922182123945984, 18554220005177478453757717602843436772975706112), (5607810198407703691264,
  45671926166590716193865151022383844364247891968, 27117706161413237740107433419540407591272185856), (9739880870918643253248, 91343852333181432387730302044767688728495783936, 47099173859296676074923436991833339500630638592),
  (28334198897217871282176, 182687704666362864775460604089535377456991567872, 91343852333181432387730302044767688728495783936), (37778931862957161709568, 365375409332725729550921208179070754913983135744,
  182687704666362864775460604089535377456991830016), (113336795588871485128704, 730750818665451459101842416358141509827966271488, 548063113999088594326381812268606132370974703616), (188894659314785808547840,
  1461501637330902918203684832716283019655932542976, 913438523331814323877303020447676887284957839360), (340010386766614455386112, 2923003274661805836407369665432566039311865085952,
  1461501637330902918203684832716283019655932542976), (604462909807314587353088, 5846006549323611672814739330865132078623730171904, 2923003274661805836407369665432566039311865217024), (604462909807314587353088,
  11692013098647223345629478661730264157247460343808, 2923003274661805836407369665432566039311865085952), (4231240368651202111471616, 23384026197294446691258957323460528314494920687616,
  20461022922632640854851587658027962275183055601664), (5440166188265831286177792, 46768052394588893382517914646921056628989841375232, 26307029471956252527666326988893094353806785773568), (14507109835375550096474112,
  93536104789177786765035829293842113257979682750464, 46768052394588893382517914646921056628989841375232), (19342813113834066795298816, 187072209578355573530071658587684226515959365500928,
  93536104789177786765035829293842113257979683799040), (58028439341502200385896448, 374144419156711147060143317175368453031918731001856, 280608314367533360295107487881526339773939048251392), (96714065569170333976494080,
  748288838313422294120286634350736906063837462003712, 467680523945888933825179146469210566289898413752320), (174085318024506601157689344, 1496577676626844588240573268701473812127674924007424,
  748288838313422294120286634350736906063837462003712), (309485009821345068724781056, 2993155353253689176481146537402947624255349848014848, 1496577676626844588240573268701473812127674924531712), (309485009821345068724781056,
  5986310706507378352962293074805895248510699696029696, 1496577676626844588240573268701473812127674924007424), (2166395068749415481073467392, 11972621413014756705924586149611790497021399392059392,
  10476043736387912117684012880910316684893724468051968), (2785365088392105618523029504, 23945242826029513411849172299223580994042798784118784, 13469199089641601294165159418313264309149074316066816), (7427640235712281649394745344,
  47890485652059026823698344598447161988085597568237568, 23945242826029513411849172299223580994042798784118784), (9903520314283042199192993792, 95780971304118053647396689196894323976171195136475136,
  47890485652059026823698344598447161988085597576626176), (29710560942849126597578981376, 191561942608236107294793378393788647952342390272950272, 143671456956177080471095033795341485964256792704712704),
  (49517601571415210995964968960, 383123885216472214589586756787577295904684780545900544, 239452428260295134118491722992235809940427987841187840), (89131682828547379792736944128,
  766247770432944429179173513575154591809369561091801088, 383123885216472214589586756787577295904684780545900544), (158456325028528675187087900672, 1532495540865888858358347027150309183618739122183602176,
  766247770432944429179173513575154591809369561095995392), (475368975085586025561263702016, 3064991081731777716716694054300618367237478244367204352, 2298743311298833287537520540725463775428108683275403264),
  (792281625142643375935439503360, 6129982163463555433433388108601236734474956488734408704, 3831238852164722145895867567875772959046847805459005440), (1426106925256758076683791106048,
  12259964326927110866866776217202473468949912977468817408, 6129982163463555433433388108601236734474956488734408704), (2535301200456458802993406410752, 24519928653854221733733552434404946937899825954937634816,
  12259964326927110866866776217202473468949912977470914560), (7605903601369376408980219232256, 49039857307708443467467104868809893875799651909875269632, 36779892980781332600600328651607420406849738932406452224),
  (12676506002282294014967032053760, 98079714615416886934934209737619787751599303819750539264, 61299821634635554334333881086012367344749564887344087040), (22817710804108129226940657696768,
  196159429230833773869868419475239575503198607639501078528, 110339678942343997801800985954822261220549216797219356672), (43100120407759799650887908982784, 392318858461667547739736838950479151006397215279002157056,
  196159429230833773869868419475239575503198607639501078528), (81129638414606681695789005144064, 784637716923335095479473677900958302012794430558004314112, 392318858461667547739736838950479151006397215279004254208),
  (243388915243820045087367015432192, 1569275433846670190958947355801916604025588861116008628224, 1176956575385002643219210516851437453019191645837006471168), (405648192073033408478945025720320,
  3138550867693340381917894711603833208051177722232017256448, 1961594292308337738698684194752395755031986076395010785280), (730166745731460135262101046296576, 6277101735386680763835789423207666416102355444464034512896,
  3530869726155007929657631550554312359057574937511019413504), (1379203853048313588828413087449088, 12554203470773361527671578846415332832204710888928069025792, 6669420593848348311575526262158145567108752659743036669952),
  (2677278067682020495961037169754112, 25108406941546723055343157692830665664409421777856138051584, 12946522329235029075411315685365811983211108104207071182848), (5273426496949434310226285334364160,
  50216813883093446110686315385661331328818843555712276103168, 25108406941546723055343157692830665664409421777856138051584), (10384593717069655257060992658440192, 100433627766186892221372630771322662657637687111424552206336,
  50216813883093446110686315385661331328818843555712278200320), (31153781151208965771182977975320576, 200867255532373784442745261542645325315275374222849104412672, 150650441649280338332058946156983993986456530667136828309504),
  (51922968585348276285304963292200960, 401734511064747568885490523085290650630550748445698208825344, 251084069415467230553431576928306656644094217778561380515840), (93461343453626897313548933925961728,
  803469022129495137770981046170581301261101496891396417650688, 451951324947841014996176838470951981959369592001410484928512), (176538093190184139370036875193483264, 1606938044258990275541962092341162602522202993782792835301376,
  853685836012588583881667361556242632589920340447108693753856), (342691592663298623483012757728526336, 3213876088517980551083924184682325205044405987565585670602752, 1657154858142083721652648407726823933851021837338505111404544),
  (674998591609527591708964522798612480, 6427752177035961102167848369364650410088811975131171341205504, 3213876088517980551083924184682325205044405987565585670602752), (1329227995784915872903807060280344576,
  12855504354071922204335696738729300820177623950262342682411008, 6427752177035961102167848369364650410088811975131171343302656), (3987683987354747618711421180841033728,
  25711008708143844408671393477458601640355247900524685364822016, 19283256531107883306503545108093951230266435925393514023616512), (6646139978924579364519035301401722880,
  51422017416287688817342786954917203280710495801049370729644032, 32138760885179805510839241846823252050444059875655856706027520), (1329227995784915872903807060280344576,
  102844034832575377634685573909834406561420991602098741459288064, 6427752177035961102167848369364650410088811975131171341205504), (22596875928343569839364720024765857792,
  205688069665150755269371147819668813122841983204197482918576128, 109271787009611338736853422279199056971509803577229912800493568), (43864523860902223805825632989251371008,
  411376139330301510538742295639337626245683966408394965837152256, 212115821842186716371538996189033463532930795179328654259781632), (97033643692298858721977915400465154048,
  822752278660603021077484591278675252491367932816789931674304512, 469225908923625160458252930963619479936483274184575507908001792), (171470411456254147604591110776164450304,
  1645504557321206042154969182557350504982735865633579863348609024, 829180030837638982179652439648039902901456744791921103015510016), (361550014853497117429835520396253724672,
  3291009114642412084309938365114701009965471731267159726697218048, 1645504557321206042154969182557350504982735865633579863348609024), (680564733841876926926749214863536422912,
  6582018229284824168619876730229402019930943462534319453394436096, 3291009114642412084309938365114701009965471731267159726699315200), (2041694201525630780780247644590609268736,
  13164036458569648337239753460458804039861886925068638906788872192, 9873027343927236252929815095344103029896415193801479180091654144), (3402823669209384634633746074317682114560,
  26328072917139296674479506920917608079723773850137277813577744384, 16455045573212060421549691825573505049827358656335798633486090240), (680564733841876926926749214863536422912,
  52656145834278593348959013841835216159447547700274555627155488768, 3291009114642412084309938365114701009965471731267159726697218048), (11569600475311907757754736652680119189504,
  105312291668557186697918027683670432318895095400549111254310977536, 55947154948921005433268952206949917169413019431541715353852706816), (22458636216781938588582724090496701956096,
  210624583337114373395836055367340864637790190801098222508621955072, 108603300783199598782227966048785133328860567131816270981008195584), (49681225570457015665652692685038158872576,
  421249166674228746791672110734681729275580381602196445017243910144, 240243665368896082154625500653373173727479436382502660048896917504), (87792850665602123573550648717396198555648,
  842498333348457493583344221469363458551160763204392890034487820288, 424540175788871158875982049099796430285545853333463604743941128192), (348449143727040986586495598010130648530943, 1,
  842498333348457493583344221469363458551160763204392890034487820288)]

section
variable (w : World) [hgb : At w 0 0 bysC] [hmx : MxI w]
omit hgb hmx in
theorem same_ex (a : Option Addr) (c b n : Nat) (xs : List Int) (hn : n = xs.length) (hx : n ≤ 100) (h1 : RowV w false 1 (.slice a n c) (xs.map intV)) (h2 : Bk w b (xs.map intV) 3) : Ct Tryz.prog 51 [.slice a n c, .slice (some ⟨b, 0, none⟩) n n] w fun v _ => v = .bool true := by
  subst hn
  have i1 : RowI w (.slice a xs.length c) false 1 (xs.map intV) := ⟨h1⟩
  have i2 : RowI w (.slice (some ⟨b, 0, none⟩) xs.length xs.length) false 1 (xs.map intV) := ⟨by have := h2.row (fun x hx => by obtain ⟨y, _, rfl⟩ := List.mem_map.1 hx; rfl) (by rw [List.length_map]; omega); rwa [List.length_map] at this⟩
  exact (same_law6 a (some ⟨b, 0, none⟩) c xs.length xs xs w).mono fun v _ _ e => e.trans (by rw [decide_eq_true rfl])
set_option maxRecDepth 20000 in
set_option maxHeartbeats 16000000 in
theorem alive_law6 : Ct Tryz.prog 13 [] w fun v _ => v = .bool true := by
  refine Ct.ofW (by simp) ?_
  (refine jjB ?_; refine jjC ?_; apply jJ; exact eB rfl; refine jz ?_; refine jjB ?_; refine jjC ?_)
  refine jjQ (deck_law6 _) rfl rfl ?_
  rintro _ w1 hS1 ⟨d1, rfl, hD1⟩
  skip
  refine jjQ (ex_runs d1 _ hD1) rfl rfl ?_
  rintro _ w2 hS2 ⟨a2, c2, rfl, hR2⟩
  (apply jI; exact eU rfl; refine ju rfl rfl ?_; refine ju rfl rfl ?_; apply jJ; exact eS rfl; apply jJ; exact eI rfl; refine jz ?_; refine jjB ?_; refine jjC ?_)
  refine jjQ (deck_law6 _) rfl rfl ?_
  rintro _ w3 hS3 ⟨d3, rfl, hD3⟩
  skip
  refine jjQ (ex_passes2 d3 _ hD3) rfl rfl ?_
  rintro _ w4 hS4 rfl
  (apply jI; exact eU rfl; refine ju rfl rfl ?_; refine ju rfl rfl ?_; apply jJ; exact eI rfl; apply jJ; exact eI rfl; refine jz ?_; refine jjB ?_; refine jjC ?_)
  refine jjQ (deck_law6 _) rfl rfl ?_
  rintro _ w5 hS5 ⟨d5, rfl, hD5⟩
  skip
  refine jjQ (ex_plan2 d5 _ hD5) rfl rfl ?_
  rintro _ w6 hS6 ⟨a6, c6, rs, rfl, hrs, hP6, hI6⟩
  have iP6 : RowI w6 (.slice a6 rs.length c6) false 1 (rs.map encW) := ⟨hP6⟩
  (apply jI; exact eU rfl; refine ju rfl rfl ?_; refine ju rfl rfl ?_; apply jJ; exact eS rfl; apply jJ; exact eI rfl; refine jz ?_; refine jjB ?_; refine jjC ?_)
  refine jjQ (deck_law6 _) rfl rfl ?_
  rintro _ w7 hS7 ⟨d7, rfl, hD7⟩
  (apply jI; exact eS rfl)
  refine jjQ (ex_sort d7 _ hD7 a6 c6 rs hrs) rfl rfl ?_
  rintro _ w8 hS8 ⟨a8, c8, rfl, hR8⟩
  (apply jI; exact eU rfl; refine ju rfl rfl ?_; refine ju rfl rfl ?_; apply jJ; exact eS rfl; apply jJ; exact eI rfl; refine jz ?_; refine jjB ?_; refine jjC ?_)
  refine jjQ (deck_law6 _) rfl rfl ?_
  rintro _ w9 hS9 ⟨d9, rfl, hD9⟩
  skip
  refine jjQ (ex_proof2 d9 _ hD9) rfl rfl ?_
  rintro _ w10 hS10 ⟨a10, c10, rfl, hR10⟩
  (apply jI; exact eU rfl; refine ju rfl rfl ?_; refine ju rfl rfl ?_; apply jJ; exact eS rfl; apply jJ; exact eI rfl; refine jz ?_; refine jjB ?_; refine jjC ?_)
  refine jjQ (deck_law6 _) rfl rfl ?_
  rintro _ w11 hS11 ⟨d11, rfl, hD11⟩
  skip
  refine jjQ (ex_keep d11 _ hD11) rfl rfl ?_
  rintro _ w12 hS12 ⟨a12, c12, rfl, hR12⟩
  (apply jI; exact eU rfl; refine ju rfl rfl ?_; refine ju rfl rfl ?_; apply jJ; exact eS rfl; apply jJ; exact eI rfl; refine jz ?_; refine jjB ?_; refine jjC ?_)
  refine jjQ (deck_law6 _) rfl rfl ?_
  rintro _ w13 hS13 ⟨d13, rfl, hD13⟩
  skip
  refine jjQ (ex_chains d13 _ hD13) rfl rfl ?_
  rintro _ w14 hS14 ⟨a14, c14, rfl, hR14⟩
  (apply jI; exact eU rfl; refine ju rfl rfl ?_; refine ju rfl rfl ?_; apply jJ; exact eS rfl; apply jJ; exact eI rfl; refine jz ?_; refine jjB ?_; refine jjC ?_)
  refine jjQ (deck_law6 _) rfl rfl ?_
  rintro _ w15 hS15 ⟨d15, rfl, hD15⟩
  skip
  refine jjQ (ex_mend d15 _ hD15) rfl rfl ?_
  rintro _ w16 hS16 ⟨a16, c16, rfl, hR16⟩
  (apply jI; exact eU rfl; refine ju rfl rfl ?_; refine ju rfl rfl ?_; apply jJ; exact eS rfl; apply jJ; exact eI rfl; refine jz ?_; refine jjB ?_; refine jjC ?_)
  refine jjQ (deck_law6 _) rfl rfl ?_
  rintro _ w17 hS17 ⟨d17, rfl, hD17⟩
  (apply jI; exact eS rfl)
  refine jjQ (ex_moved d17 _ hD17 a16 c16 (hR16.ext hS17.ext)) rfl rfl ?_
  rintro _ w18 hS18 ⟨a18, c18, rfl, hR18⟩
  (apply jI; exact eU rfl; refine ju rfl rfl ?_; refine ju rfl rfl ?_; apply jJ; exact eS rfl; apply jJ; exact eI rfl; refine jz ?_; refine jjB ?_; refine jjC ?_)
  refine jjQ (slips_law6 _) rfl rfl ?_
  rintro _ w19 hS19 ⟨d19, rfl, hD19⟩
  skip
  refine jjQ (ex_ranks d19 _ hD19) rfl rfl ?_
  rintro _ w20 hS20 ⟨a20, c20, rfl, hR20⟩
  (apply jI; exact eU rfl; refine ju rfl rfl ?_; refine ju rfl rfl ?_; apply jJ; exact eS rfl; apply jJ; exact eI rfl; refine jz ?_; refine jjB ?_; refine jjC ?_)
  refine jjQ (slips_law6 _) rfl rfl ?_
  rintro _ w21 hS21 ⟨d21, rfl, hD21⟩
  skip
  refine jjQ (ex_file d21 _ hD21) rfl rfl ?_
  rintro _ w22 hS22 ⟨a22, c22, rfl, hR22⟩
  (apply jI; exact eU rfl; refine ju rfl rfl ?_; refine ju rfl rfl ?_; refine ju rfl rfl ?_; apply jJ; exact eS rfl; apply jJ; exact eI rfl; apply jJ; exact eI rfl; refine jz ?_; refine jjB ?_)
  have e4 : fileL exS 2 2 = [((0, 0, 0), xAnd, ⟨#[]⟩, ⟨#[]⟩), ((0, 0, 0), xOld, ⟨#[]⟩, ⟨#[]⟩), ((0, 0, 0), xSea, ⟨#[]⟩, ⟨#[]⟩), ((0, 0, 0), xSea, ⟨#[]⟩, xIs)] := exS_file
  rw [e4] at hR22
  obtain ⟨pb, po, rfl, -⟩ := hR22.place' (j := 0) rfl
  have P0 : At w22 pb (po + 0 * 6) [.int .i64 0, .int .i64 0, .int .i64 0, .string xAnd, .string ⟨#[]⟩, .string ⟨#[]⟩] := place_k hR22 (j := 0) rfl
  have P1 : At w22 pb (po + 1 * 6) [.int .i64 0, .int .i64 0, .int .i64 0, .string xOld, .string ⟨#[]⟩, .string ⟨#[]⟩] := place_k hR22 (j := 1) rfl
  have P2 : At w22 pb (po + 2 * 6) (encSl exS[0]).cells.toList := place_k hR22 (j := 2) rfl
  have P3 : At w22 pb (po + 3 * 6) (encSl exS[2]).cells.toList := place_k hR22 (j := 3) rfl
  have i10 : RowI w22 (.slice a10 ([(3, 2), (2, 0)] : List (Int × Int)).length c10) true 2 (([(3, 2), (2, 0)] : List (Int × Int)).map encII) := ⟨hR10.ext inferInstance⟩
  have i16 : RowI w22 (.slice a16 ([(0, 3), (2, 1)] : List (Int × Int)).length c16) true 2 (([(0, 3), (2, 1)] : List (Int × Int)).map encII) := ⟨hR16.ext inferInstance⟩
  have hl2 : rs.length = 2 := by have := congrArg List.length hrs; simpa using this
  have iP22 : RowI w22 (.slice a6 rs.length c6) false 1 (rs.map encW) := inferInstance
  have iI22 : RowsI w22 rs := hI6.ext inferInstance
  refine W.keep0 [(1, .slice a2 4 c2), (2, .int .i64 0), (3, .int .i64 2), (4, .int .i64 0), (5, .slice a6 rs.length c6), (6, .int .i64 0), (7, .slice a8 4 c8), (8, .int .i64 0), (9, .slice a10 2 c10), (10, .int .i64 0), (11, .slice a12 2 c12), (12, .int .i64 0), (13, .slice a14 4 c14), (14, .int .i64 0), (15, .slice a16 2 c16), (16, .int .i64 0), (17, .slice a18 4 c18), (18, .int .i64 0), (19, .slice a20 4 c20), (20, .int .i64 0), (21, .slice (some ⟨pb, po, none⟩) 4 c22), (22, .int .i64 2), (23, .int .i64 0)] ⟨eS rfl, eI rfl, eI rfl, eI rfl, eS rfl, eI rfl, eS rfl, eI rfl, eS rfl, eI rfl, eS rfl, eI rfl, eS rfl, eI rfl, eS rfl, eI rfl, eS rfl, eI rfl, eS rfl, eI rfl, eS rfl, eI rfl, eI rfl, trivial⟩ fun s0 => ?_
  refine W.drawF (fun w' => Ext w22 w') aliveR (by decide +kernel) (by decide +kernel) ?_
  intro w23 hS23
  refine AnyF.take [0, 1, 2, 3] (by decide +kernel) inferInstance ?_
  (((apply jjT; exact rfl; rintro w' hq; have := hq.toStep; apply jI; exact eI rfl; refine jz ?_; exact ⟨rfl, rfl⟩; apply jjT; exact rfl; rintro w' hq; have := hq.toStep; refine jjh rfl rfl (by omega) ?_; refine jz ?_; exact ⟨rfl, rfl⟩; apply jjT; exact rfl; rintro w' hq; have := hq.toStep; apply jI; exact eB rfl; refine jz ?_; exact ⟨rfl, rfl⟩; apply jjT; exact rfl; rintro w' hq; have := hq.toStep; refine jT rfl rfl rfl ?_; apply jI; exact eS rfl; refine jz ?_; exact ⟨rfl, rfl⟩; refine jjU ?_)))
  (apply AnyF.one 4; (decide +kernel); exact rfl; (exact inferInstance))
  refine jT rfl rfl rfl ?_
  refine Ops.buildSliceF (cells := [.int .i64 2, .int .i64 0, .int .i64 1, .int .i64 0]) rfl rfl rfl ?_
  intro b24 w24 hb24 hs24 hS24 hk24
  refine jz ?_
  (apply AnyF.one 5; (decide +kernel); exact rfl; (exact inferInstance))
  refine jT rfl rfl rfl ?_
  refine jjQ (same_ex _ a2 c2 b24 4 [2, 0, 1, 0] rfl (by decide) (hR2.ext inferInstance) hk24) rfl rfl ?_
  rintro _ w25 hS25 rfl
  refine jz ?_
  refine AnyF.take [6, 7, 8, 9, 10, 11, 12, 13, 14, 15, 16, 17, 18, 19, 20] (by decide +kernel) inferInstance ?_
  (((apply jjT; exact rfl; rintro w' hq; have := hq.toStep; apply jK rfl; exact eB rfl; refine jz ?_; exact ⟨rfl, rfl⟩; apply jjT; exact rfl; rintro w' hq; have := hq.toStep; apply jI; exact eB rfl; refine jz ?_; exact ⟨rfl, rfl⟩; apply jjT; exact rfl; rintro w' hq; have := hq.toStep; refine jT rfl rfl rfl ?_; apply jI; exact eI rfl; refine jz ?_; exact ⟨rfl, rfl⟩; apply jjT; exact rfl; rintro w' hq; have := hq.toStep; refine jT rfl rfl rfl ?_; refine jjh rfl rfl (by omega) ?_; refine jz ?_; exact ⟨rfl, rfl⟩; apply jjT; exact rfl; rintro w' hq; have := hq.toStep; apply jK rfl; exact eB rfl; refine jz ?_; exact ⟨rfl, rfl⟩; apply jjT; exact rfl; rintro w' hq; have := hq.toStep; apply jI; exact eB rfl; refine jz ?_; exact ⟨rfl, rfl⟩; apply jjT; exact rfl; rintro w' hq; have := hq.toStep; refine jT rfl rfl rfl ?_; apply jI; exact eI rfl; refine jz ?_; exact ⟨rfl, rfl⟩; apply jjT; exact rfl; rintro w' hq; have := hq.toStep; refine jT rfl rfl rfl ?_; refine jjh rfl rfl (by omega) ?_; refine jz ?_; exact ⟨rfl, rfl⟩; apply jjT; exact rfl; rintro w' hq; have := hq.toStep; apply jK rfl; exact eB rfl; refine jz ?_; exact ⟨rfl, rfl⟩; apply jjT; exact rfl; rintro w' hq; have := hq.toStep; apply jI; exact eB rfl; refine jz ?_; exact ⟨rfl, rfl⟩; apply jjT; exact rfl; rintro w' hq; have := hq.toStep; refine jT rfl rfl rfl ?_; apply jI; exact eI rfl; refine jz ?_; exact ⟨rfl, rfl⟩; apply jjT; exact rfl; rintro w' hq; have := hq.toStep; refine jT rfl rfl rfl ?_; refine jjh rfl rfl (by omega) ?_; refine jz ?_; exact ⟨rfl, rfl⟩; apply jjT; exact rfl; rintro w' hq; have := hq.toStep; apply jK rfl; exact eB rfl; refine jz ?_; exact ⟨rfl, rfl⟩; apply jjT; exact rfl; rintro w' hq; have := hq.toStep; apply jI; exact eB rfl; refine jz ?_; exact ⟨rfl, rfl⟩; apply jjT; exact rfl; rintro w' hq; have := hq.toStep; refine jT rfl rfl rfl ?_; apply jI; exact eS rfl; refine jz ?_; exact ⟨rfl, rfl⟩; refine jjU ?_)))
  refine AnyF.joinB 21 22 (d1 := 103) (d2 := 104) (by decide) (fun b => .slice (some ⟨b, 0, none⟩) 4 4) (fun b => .slice (some ⟨b, 0, none⟩) 4 4) (fun b1 b2 w2 => Ext w25 w2 ∧ Bk w2 b1 [.int .i64 0, .int .i64 0, .int .i64 1, .int .i64 0] 3 ∧ Bk w2 b2 [.int .i64 1, .int .i64 0, .int .i64 0, .int .i64 0] 3) (by decide +kernel) rfl rfl inferInstance ?_ ?_ ?_
  · refine jT rfl rfl rfl ?_
    refine Ops.buildSliceF (cells := [.int .i64 0, .int .i64 0, .int .i64 1, .int .i64 0]) rfl rfl rfl ?_
    intro b1 w1' hb1 hs1 hS1' hk1
    refine jz ?_
    refine ⟨inferInstance, ?_⟩
    refine jT rfl rfl rfl ?_
    refine Ops.buildSliceF (cells := [.int .i64 1, .int .i64 0, .int .i64 0, .int .i64 0]) rfl rfl rfl ?_
    intro b2 w2' hb2 hs2 hS2' hk2
    refine jz ?_
    exact ⟨b1, b2, rfl, inferInstance, inferInstance, inferInstance⟩
  · refine jT rfl rfl rfl ?_
    refine Ops.buildSliceF (cells := [.int .i64 1, .int .i64 0, .int .i64 0, .int .i64 0]) rfl rfl rfl ?_
    intro b1 w1' hb1 hs1 hS1' hk1
    refine jz ?_
    refine ⟨inferInstance, ?_⟩
    refine jT rfl rfl rfl ?_
    refine Ops.buildSliceF (cells := [.int .i64 0, .int .i64 0, .int .i64 1, .int .i64 0]) rfl rfl rfl ?_
    intro b2 w2' hb2 hs2 hS2' hk2
    refine jz ?_
    exact ⟨b2, b1, rfl, inferInstance, inferInstance, inferInstance⟩
  rintro b26 b27 w27 ⟨hE27, kk1, kk2⟩
  have hS27 := hE27.toStep
  (apply AnyF.one 23; (decide +kernel); exact rfl; (exact inferInstance))
  refine jT rfl rfl rfl ?_
  refine Ops.buildSliceF (cells := [.slice (some ⟨b26, 0, none⟩) 4 4, .slice (some ⟨b27, 0, none⟩) 4 4]) rfl rfl rfl ?_
  intro b28 w28 hb28 hs28 hS28 hk28
  refine jz ?_
  obtain ⟨ts, hts⟩ : ∃ ts : List Rw, ts = [(some ⟨b26, 0, none⟩, 4, [0, 0, 1, 0]), (some ⟨b27, 0, none⟩, 4, [1, 0, 0, 0])] := ⟨_, rfl⟩
  have it : RowI w28 (.slice (some ⟨b28, 0, none⟩) ts.length 2) false 1 (ts.map encW) := ⟨by subst hts; exact hk28.row (fun x hx => by simp at hx; rcases hx with rfl | rfl <;> rfl) (by simp)⟩
  have k1 : Bk w28 b26 [.int .i64 0, .int .i64 0, .int .i64 1, .int .i64 0] 3 := inferInstance
  have k2 : Bk w28 b27 [.int .i64 1, .int .i64 0, .int .i64 0, .int .i64 0] 3 := inferInstance
  have its : RowsI w28 ts := ⟨by
    subst hts
    intro x hx
    simp only [List.mem_cons, List.not_mem_nil, or_false] at hx
    rcases hx with rfl | rfl
    · exact k1.row (fun x hx => by simp at hx; rcases hx with rfl | rfl | rfl | rfl <;> rfl) (by simp)
    · exact k2.row (fun x hx => by simp at hx; rcases hx with rfl | rfl | rfl | rfl <;> rfl) (by simp)⟩
  have ets : ts.length = 2 := by rw [hts]; rfl
  have iP27 : RowI w28 (.slice a6 rs.length c6) false 1 (rs.map encW) := inferInstance
  have iI27 : RowsI w28 rs := inferInstance
  (apply AnyF.one 24; (decide +kernel); exact rfl; (exact inferInstance))
  refine jT rfl rfl rfl ?_
  refine jjQ (SameLists_yes a6 c6 rs _ (some ⟨b28, 0, none⟩) 2 ts (by rw [hrs, hts]; rfl) (by omega)) rfl (by rw [ets]; rfl) ?_
  rintro _ w29 hS29 rfl
  refine jz ?_
  refine AnyF.take [25, 26, 27, 28, 29, 30, 31] (by decide +kernel) inferInstance ?_
  (((apply jjT; exact rfl; rintro w' hq; have := hq.toStep; apply jK rfl; exact eB rfl; refine jz ?_; exact ⟨rfl, rfl⟩; apply jjT; exact rfl; rintro w' hq; have := hq.toStep; apply jI; exact eB rfl; refine jz ?_; exact ⟨rfl, rfl⟩; apply jjT; exact rfl; rintro w' hq; have := hq.toStep; refine jT rfl rfl rfl ?_; apply jI; exact eI rfl; refine jz ?_; exact ⟨rfl, rfl⟩; apply jjT; exact rfl; rintro w' hq; have := hq.toStep; refine jT rfl rfl rfl ?_; refine jjh rfl rfl (by omega) ?_; refine jz ?_; exact ⟨rfl, rfl⟩; apply jjT; exact rfl; rintro w' hq; have := hq.toStep; apply jK rfl; exact eB rfl; refine jz ?_; exact ⟨rfl, rfl⟩; apply jjT; exact rfl; rintro w' hq; have := hq.toStep; apply jI; exact eB rfl; refine jz ?_; exact ⟨rfl, rfl⟩; apply jjT; exact rfl; rintro w' hq; have := hq.toStep; refine jT rfl rfl rfl ?_; apply jI; exact eS rfl; refine jz ?_; exact ⟨rfl, rfl⟩; refine jjU ?_)))
  (apply AnyF.one 32; (decide +kernel); exact rfl; (exact inferInstance))
  refine jT rfl rfl rfl ?_
  refine Ops.buildSliceF (cells := [.int .i64 1, .int .i64 3, .int .i64 2, .int .i64 0]) rfl rfl rfl ?_
  intro b30 w30 hb30 hs30 hS30 hk30
  refine jz ?_
  (apply AnyF.one 33; (decide +kernel); exact rfl; (exact inferInstance))
  refine jT rfl rfl rfl ?_
  refine jjQ (same_ex _ a8 c8 b30 4 [1, 3, 2, 0] rfl (by decide) (hR8.ext inferInstance) hk30) rfl rfl ?_
  rintro _ w31 hS31 rfl
  refine jz ?_
  refine AnyF.take [34, 35, 36, 37, 38, 39, 40] (by decide +kernel) inferInstance ?_
  (((apply jjT; exact rfl; rintro w' hq; have := hq.toStep; apply jK rfl; exact eB rfl; refine jz ?_; exact ⟨rfl, rfl⟩; apply jjT; exact rfl; rintro w' hq; have := hq.toStep; apply jI; exact eB rfl; refine jz ?_; exact ⟨rfl, rfl⟩; apply jjT; exact rfl; rintro w' hq; have := hq.toStep; refine jT rfl rfl rfl ?_; apply jI; exact eI rfl; refine jz ?_; exact ⟨rfl, rfl⟩; apply jjT; exact rfl; rintro w' hq; have := hq.toStep; refine jT rfl rfl rfl ?_; refine jjh rfl rfl (by omega) ?_; refine jz ?_; exact ⟨rfl, rfl⟩; apply jjT; exact rfl; rintro w' hq; have := hq.toStep; apply jK rfl; exact eB rfl; refine jz ?_; exact ⟨rfl, rfl⟩; apply jjT; exact rfl; rintro w' hq; have := hq.toStep; apply jI; exact eB rfl; refine jz ?_; exact ⟨rfl, rfl⟩; apply jjT; exact rfl; rintro w' hq; have := hq.toStep; refine jT rfl rfl rfl ?_; apply jI; exact eS rfl; refine jz ?_; exact ⟨rfl, rfl⟩; refine jjU ?_)))
  refine AnyF.take [41] (by decide +kernel) inferInstance (jjT (v := encII (3, 2)) rfl (fun w' q1 => ?_) (jjU ?_)); (refine jT rfl rfl rfl ?_; (refine jjS (cells := [.int .i64 3, .int .i64 2]) ?_ ?_; exact rfl); refine jz ?_; exact ⟨rfl, rfl⟩)
  refine AnyF.take [42] (by decide +kernel) inferInstance (jjT (v := encII (2, 0)) rfl (fun w' q1 => ?_) (jjU ?_)); (refine jT rfl rfl rfl ?_; (refine jjS (cells := [.int .i64 2, .int .i64 0]) ?_ ?_; exact rfl); refine jz ?_; exact ⟨rfl, rfl⟩)
  (apply AnyF.one 43; (decide +kernel); exact rfl; (exact inferInstance))
  refine jT rfl rfl rfl ?_
  refine Ops.buildSliceF (cells := [.int .i64 3, .int .i64 2, .int .i64 2, .int .i64 0]) rfl rfl rfl ?_
  intro b32 w32 hb32 hs32 hS32 hk32
  refine jz ?_
  have i32' : RowI w32 (.slice (some ⟨b32, 0, none⟩) ([(3, 2), (2, 0)] : List (Int × Int)).length 2) true 2 (([(3, 2), (2, 0)] : List (Int × Int)).map encII) := ⟨Bk.rows (xs := ([(3, 2), (2, 0)] : List (Int × Int)).map encII) hk32 (by simp [fitsV, encII]) (by simp)⟩
  (apply AnyF.one 44; (decide +kernel); exact rfl; (exact inferInstance))
  refine jT rfl rfl rfl ?_
  refine jjQ (SamePairs_yes a10 (some ⟨b32, 0, none⟩) c10 2 [(3, 2), (2, 0)] _ (by decide)) rfl rfl ?_
  rintro _ w33 hS33 rfl
  refine jz ?_
  refine AnyF.take [45, 46, 47, 48, 49, 50, 51] (by decide +kernel) inferInstance ?_
  (((apply jjT; exact rfl; rintro w' hq; have := hq.toStep; apply jK rfl; exact eB rfl; refine jz ?_; exact ⟨rfl, rfl⟩; apply jjT; exact rfl; rintro w' hq; have := hq.toStep; apply jI; exact eB rfl; refine jz ?_; exact ⟨rfl, rfl⟩; apply jjT; exact rfl; rintro w' hq; have := hq.toStep; refine jT rfl rfl rfl ?_; apply jI; exact eI rfl; refine jz ?_; exact ⟨rfl, rfl⟩; apply jjT; exact rfl; rintro w' hq; have := hq.toStep; refine jT rfl rfl rfl ?_; refine jjh rfl rfl (by omega) ?_; refine jz ?_; exact ⟨rfl, rfl⟩; apply jjT; exact rfl; rintro w' hq; have := hq.toStep; apply jK rfl; exact eB rfl; refine jz ?_; exact ⟨rfl, rfl⟩; apply jjT; exact rfl; rintro w' hq; have := hq.toStep; apply jI; exact eB rfl; refine jz ?_; exact ⟨rfl, rfl⟩; apply jjT; exact rfl; rintro w' hq; have := hq.toStep; refine jT rfl rfl rfl ?_; apply jI; exact eS rfl; refine jz ?_; exact ⟨rfl, rfl⟩; refine jjU ?_)))
  (apply AnyF.one 52; (decide +kernel); exact rfl; (exact inferInstance))
  refine jT rfl rfl rfl ?_
  refine Ops.buildSliceF (cells := [.int .i64 1, .int .i64 2]) rfl rfl rfl ?_
  intro b34 w34 hb34 hs34 hS34 hk34
  refine jz ?_
  (apply AnyF.one 53; (decide +kernel); exact rfl; (exact inferInstance))
  refine jT rfl rfl rfl ?_
  refine jjQ (same_ex _ a12 c12 b34 2 [1, 2] rfl (by decide) (hR12.ext inferInstance) hk34) rfl rfl ?_
  rintro _ w35 hS35 rfl
  refine jz ?_
  refine AnyF.take [54, 55, 56, 57, 58, 59, 60] (by decide +kernel) inferInstance ?_
  (((apply jjT; exact rfl; rintro w' hq; have := hq.toStep; apply jK rfl; exact eB rfl; refine jz ?_; exact ⟨rfl, rfl⟩; apply jjT; exact rfl; rintro w' hq; have := hq.toStep; apply jI; exact eB rfl; refine jz ?_; exact ⟨rfl, rfl⟩; apply jjT; exact rfl; rintro w' hq; have := hq.toStep; refine jT rfl rfl rfl ?_; apply jI; exact eI rfl; refine jz ?_; exact ⟨rfl, rfl⟩; apply jjT; exact rfl; rintro w' hq; have := hq.toStep; refine jT rfl rfl rfl ?_; refine jjh rfl rfl (by omega) ?_; refine jz ?_; exact ⟨rfl, rfl⟩; apply jjT; exact rfl; rintro w' hq; have := hq.toStep; apply jK rfl; exact eB rfl; refine jz ?_; exact ⟨rfl, rfl⟩; apply jjT; exact rfl; rintro w' hq; have := hq.toStep; apply jI; exact eB rfl; refine jz ?_; exact ⟨rfl, rfl⟩; apply jjT; exact rfl; rintro w' hq; have := hq.toStep; refine jT rfl rfl rfl ?_; apply jI; exact eS rfl; refine jz ?_; exact ⟨rfl, rfl⟩; refine jjU ?_)))
  (apply AnyF.one 61; (decide +kernel); exact rfl; (exact inferInstance))
  refine jT rfl rfl rfl ?_
  refine Ops.buildSliceF (cells := [.int .i64 0, .int .i64 0, .int .i64 1, .int .i64 1]) rfl rfl rfl ?_
  intro b36 w36 hb36 hs36 hS36 hk36
  refine jz ?_
  (apply AnyF.one 62; (decide +kernel); exact rfl; (exact inferInstance))
  refine jT rfl rfl rfl ?_
  refine jjQ (same_ex _ a14 c14 b36 4 [0, 0, 1, 1] rfl (by decide) (hR14.ext inferInstance) hk36) rfl rfl ?_
  rintro _ w37 hS37 rfl
  refine jz ?_
  refine AnyF.take [63, 64, 65, 66, 67, 68, 69] (by decide +kernel) inferInstance ?_
  (((apply jjT; exact rfl; rintro w' hq; have := hq.toStep; apply jK rfl; exact eB rfl; refine jz ?_; exact ⟨rfl, rfl⟩; apply jjT; exact rfl; rintro w' hq; have := hq.toStep; apply jI; exact eB rfl; refine jz ?_; exact ⟨rfl, rfl⟩; apply jjT; exact rfl; rintro w' hq; have := hq.toStep; refine jT rfl rfl rfl ?_; apply jI; exact eI rfl; refine jz ?_; exact ⟨rfl, rfl⟩; apply jjT; exact rfl; rintro w' hq; have := hq.toStep; refine jT rfl rfl rfl ?_; refine jjh rfl rfl (by omega) ?_; refine jz ?_; exact ⟨rfl, rfl⟩; apply jjT; exact rfl; rintro w' hq; have := hq.toStep; apply jK rfl; exact eB rfl; refine jz ?_; exact ⟨rfl, rfl⟩; apply jjT; exact rfl; rintro w' hq; have := hq.toStep; apply jI; exact eB rfl; refine jz ?_; exact ⟨rfl, rfl⟩; apply jjT; exact rfl; rintro w' hq; have := hq.toStep; refine jT rfl rfl rfl ?_; apply jI; exact eS rfl; refine jz ?_; exact ⟨rfl, rfl⟩; refine jjU ?_)))
  refine AnyF.take [70] (by decide +kernel) inferInstance (jjT (v := encII (0, 3)) rfl (fun w' q1 => ?_) (jjU ?_)); (refine jT rfl rfl rfl ?_; (refine jjS (cells := [.int .i64 0, .int .i64 3]) ?_ ?_; exact rfl); refine jz ?_; exact ⟨rfl, rfl⟩)
  refine AnyF.take [71] (by decide +kernel) inferInstance (jjT (v := encII (2, 1)) rfl (fun w' q1 => ?_) (jjU ?_)); (refine jT rfl rfl rfl ?_; (refine jjS (cells := [.int .i64 2, .int .i64 1]) ?_ ?_; exact rfl); refine jz ?_; exact ⟨rfl, rfl⟩)
  (apply AnyF.one 72; (decide +kernel); exact rfl; (exact inferInstance))
  refine jT rfl rfl rfl ?_
  refine Ops.buildSliceF (cells := [.int .i64 0, .int .i64 3, .int .i64 2, .int .i64 1]) rfl rfl rfl ?_
  intro b38 w38 hb38 hs38 hS38 hk38
  refine jz ?_
  have i38' : RowI w38 (.slice (some ⟨b38, 0, none⟩) ([(0, 3), (2, 1)] : List (Int × Int)).length 2) true 2 (([(0, 3), (2, 1)] : List (Int × Int)).map encII) := ⟨Bk.rows (xs := ([(0, 3), (2, 1)] : List (Int × Int)).map encII) hk38 (by simp [fitsV, encII]) (by simp)⟩
  (apply AnyF.one 73; (decide +kernel); exact rfl; (exact inferInstance))
  refine jT rfl rfl rfl ?_
  refine jjQ (SameMoves_yes a16 (some ⟨b38, 0, none⟩) c16 2 [(0, 3), (2, 1)] _ (by decide)) rfl rfl ?_
  rintro _ w39 hS39 rfl
  refine jz ?_
  refine AnyF.take [74, 75, 76, 77, 78, 79, 80] (by decide +kernel) inferInstance ?_
  (((apply jjT; exact rfl; rintro w' hq; have := hq.toStep; apply jK rfl; exact eB rfl; refine jz ?_; exact ⟨rfl, rfl⟩; apply jjT; exact rfl; rintro w' hq; have := hq.toStep; apply jI; exact eB rfl; refine jz ?_; exact ⟨rfl, rfl⟩; apply jjT; exact rfl; rintro w' hq; have := hq.toStep; refine jT rfl rfl rfl ?_; apply jI; exact eI rfl; refine jz ?_; exact ⟨rfl, rfl⟩; apply jjT; exact rfl; rintro w' hq; have := hq.toStep; refine jT rfl rfl rfl ?_; refine jjh rfl rfl (by omega) ?_; refine jz ?_; exact ⟨rfl, rfl⟩; apply jjT; exact rfl; rintro w' hq; have := hq.toStep; apply jK rfl; exact eB rfl; refine jz ?_; exact ⟨rfl, rfl⟩; apply jjT; exact rfl; rintro w' hq; have := hq.toStep; apply jI; exact eB rfl; refine jz ?_; exact ⟨rfl, rfl⟩; apply jjT; exact rfl; rintro w' hq; have := hq.toStep; refine jT rfl rfl rfl ?_; apply jI; exact eS rfl; refine jz ?_; exact ⟨rfl, rfl⟩; refine jjU ?_)))
  (apply AnyF.one 81; (decide +kernel); exact rfl; (exact inferInstance))
  refine jT rfl rfl rfl ?_
  refine Ops.buildSliceF (cells := [.int .i64 1, .int .i64 3, .int .i64 2, .int .i64 0]) rfl rfl rfl ?_
  intro b40 w40 hb40 hs40 hS40 hk40
  refine jz ?_
  (apply AnyF.one 82; (decide +kernel); exact rfl; (exact inferInstance))
  refine jT rfl rfl rfl ?_
  refine jjQ (same_ex _ a18 c18 b40 4 [1, 3, 2, 0] rfl (by decide) (hR18.ext inferInstance) hk40) rfl rfl ?_
  rintro _ w41 hS41 rfl
  refine jz ?_
  refine AnyF.take [83, 84, 85, 86, 87, 88, 89] (by decide +kernel) inferInstance ?_
  (((apply jjT; exact rfl; rintro w' hq; have := hq.toStep; apply jK rfl; exact eB rfl; refine jz ?_; exact ⟨rfl, rfl⟩; apply jjT; exact rfl; rintro w' hq; have := hq.toStep; apply jI; exact eB rfl; refine jz ?_; exact ⟨rfl, rfl⟩; apply jjT; exact rfl; rintro w' hq; have := hq.toStep; refine jT rfl rfl rfl ?_; apply jI; exact eI rfl; refine jz ?_; exact ⟨rfl, rfl⟩; apply jjT; exact rfl; rintro w' hq; have := hq.toStep; refine jT rfl rfl rfl ?_; refine jjh rfl rfl (by omega) ?_; refine jz ?_; exact ⟨rfl, rfl⟩; apply jjT; exact rfl; rintro w' hq; have := hq.toStep; apply jK rfl; exact eB rfl; refine jz ?_; exact ⟨rfl, rfl⟩; apply jjT; exact rfl; rintro w' hq; have := hq.toStep; apply jI; exact eB rfl; refine jz ?_; exact ⟨rfl, rfl⟩; apply jjT; exact rfl; rintro w' hq; have := hq.toStep; refine jT rfl rfl rfl ?_; apply jI; exact eS rfl; refine jz ?_; exact ⟨rfl, rfl⟩; refine jjU ?_)))
  (apply AnyF.one 90; (decide +kernel); exact rfl; (exact inferInstance))
  refine jT rfl rfl rfl ?_
  refine Ops.buildSliceF (cells := [.int .i64 2, .int .i64 1, .int .i64 2, .int .i64 0]) rfl rfl rfl ?_
  intro b42 w42 hb42 hs42 hS42 hk42
  refine jz ?_
  (apply AnyF.one 91; (decide +kernel); exact rfl; (exact inferInstance))
  refine jT rfl rfl rfl ?_
  refine jjQ (same_ex _ a20 c20 b42 4 [2, 1, 2, 0] rfl (by decide) (hR20.ext inferInstance) hk42) rfl rfl ?_
  rintro _ w43 hS43 rfl
  refine jz ?_
  refine AnyF.take [92, 93, 94, 95, 96, 97, 98, 99, 100, 101, 102, 103, 104, 105, 106, 107] (by decide +kernel) inferInstance ?_
  (((apply jjT; exact rfl; rintro w' hq; have := hq.toStep; apply jK rfl; exact eB rfl; refine jz ?_; exact ⟨rfl, rfl⟩; apply jjT; exact rfl; rintro w' hq; have := hq.toStep; apply jI; exact eB rfl; refine jz ?_; exact ⟨rfl, rfl⟩; apply jjT; exact rfl; rintro w' hq; have := hq.toStep; refine jT rfl rfl rfl ?_; apply jI; exact eI rfl; refine jz ?_; exact ⟨rfl, rfl⟩; apply jjT; exact rfl; rintro w' hq; have := hq.toStep; refine jT rfl rfl rfl ?_; refine jjh rfl rfl (by omega) ?_; refine jz ?_; exact ⟨rfl, rfl⟩; apply jjT; exact rfl; rintro w' hq; have := hq.toStep; apply jK rfl; exact eB rfl; refine jz ?_; exact ⟨rfl, rfl⟩; apply jjT; exact rfl; rintro w' hq; have := hq.toStep; apply jI; exact eB rfl; refine jz ?_; exact ⟨rfl, rfl⟩; apply jjT; exact rfl; rintro w' hq; have := hq.toStep; refine jT rfl rfl rfl ?_; apply jI; exact eI rfl; refine jz ?_; exact ⟨rfl, rfl⟩; apply jjT; exact rfl; rintro w' hq; have := hq.toStep; refine jT rfl rfl rfl ?_; refine jjh rfl rfl (by omega) ?_; refine jz ?_; exact ⟨rfl, rfl⟩; apply jjT; exact rfl; rintro w' hq; have := hq.toStep; apply jK rfl; exact eB rfl; refine jz ?_; exact ⟨rfl, rfl⟩; apply jjT; exact rfl; rintro w' hq; have := hq.toStep; apply jI; exact eB rfl; refine jz ?_; exact ⟨rfl, rfl⟩; apply jjT; exact rfl; rintro w' hq; have := hq.toStep; refine jT rfl rfl rfl ?_; apply jI; exact eS rfl; refine jz ?_; exact ⟨rfl, rfl⟩; apply jjT; exact rfl; rintro w' hq; have := hq.toStep; refine jT rfl rfl rfl ?_; refine jh rfl ?_; refine jz ?_; exact ⟨rfl, rfl⟩; apply jjT; exact rfl; rintro w' hq; have := hq.toStep; refine jT rfl rfl rfl ?_; refine jjh rfl rfl (by omega) ?_; refine jz ?_; exact ⟨rfl, rfl⟩; apply jjT; exact rfl; rintro w' hq; have := hq.toStep; apply jK rfl; exact eB rfl; refine jz ?_; exact ⟨rfl, rfl⟩; apply jjT; exact rfl; rintro w' hq; have := hq.toStep; apply jI; exact eB rfl; refine jz ?_; exact ⟨rfl, rfl⟩; apply jjT; exact rfl; rintro w' hq; have := hq.toStep; refine jT rfl rfl rfl ?_; apply jI; exact eS rfl; refine jz ?_; exact ⟨rfl, rfl⟩; refine jjU ?_)))
  refine AnyF.take [108] (by decide +kernel) inferInstance (jjT (v := .pointer (some ⟨pb, po + 0 * 6, none⟩)) rfl (fun w' q1 => ?_) (jjU ?_)); (refine jT rfl rfl rfl ?_; refine jH 0 rfl rfl rfl (by omega) ?_; refine jz ?_; exact ⟨rfl, rfl⟩)
  refine AnyF.take [109] (by decide +kernel) inferInstance (jjT (v := .pointer (some ⟨pb, po + 0 * 6 + 3, none⟩)) rfl (fun w' q1 => ?_) (jjU ?_)); (refine jT rfl rfl rfl ?_; refine jn rfl ?_; refine jz ?_; exact ⟨rfl, rfl⟩)
  refine AnyF.take [110] (by decide +kernel) inferInstance (jjT (v := .string xAnd) rfl (fun w' q1 => ?_) (jjU ?_)); (refine jT rfl rfl rfl ?_; refine jR ((P0.ext q1).get (i := 3) rfl) rfl rfl ?_; refine jz ?_; exact ⟨rfl, rfl⟩)
  refine AnyF.take [111] (by decide +kernel) inferInstance (jjT (v := .bool true) rfl (fun w' q1 => ?_) (jjU ?_)); (refine jT rfl rfl rfl ?_; refine Ops.eqlS rfl rfl ?_; rw [decide_eq_true rfl]; refine jz ?_; exact ⟨rfl, rfl⟩)
  refine AnyF.take [112, 113, 114] (by decide +kernel) inferInstance ?_
  (((apply jjT; exact rfl; rintro w' hq; have := hq.toStep; apply jK rfl; exact eB rfl; refine jz ?_; exact ⟨rfl, rfl⟩; apply jjT; exact rfl; rintro w' hq; have := hq.toStep; apply jI; exact eB rfl; refine jz ?_; exact ⟨rfl, rfl⟩; apply jjT; exact rfl; rintro w' hq; have := hq.toStep; refine jT rfl rfl rfl ?_; apply jI; exact eS rfl; refine jz ?_; exact ⟨rfl, rfl⟩; refine jjU ?_)))
  refine AnyF.take [115] (by decide +kernel) inferInstance (jjT (v := .pointer (some ⟨pb, po + 1 * 6, none⟩)) rfl (fun w' q1 => ?_) (jjU ?_)); (refine jT rfl rfl rfl ?_; refine jH 1 rfl rfl rfl (by omega) ?_; refine jz ?_; exact ⟨rfl, rfl⟩)
  refine AnyF.take [116] (by decide +kernel) inferInstance (jjT (v := .pointer (some ⟨pb, po + 1 * 6 + 3, none⟩)) rfl (fun w' q1 => ?_) (jjU ?_)); (refine jT rfl rfl rfl ?_; refine jn rfl ?_; refine jz ?_; exact ⟨rfl, rfl⟩)
  refine AnyF.take [117] (by decide +kernel) inferInstance (jjT (v := .string xOld) rfl (fun w' q1 => ?_) (jjU ?_)); (refine jT rfl rfl rfl ?_; refine jR ((P1.ext q1).get (i := 3) rfl) rfl rfl ?_; refine jz ?_; exact ⟨rfl, rfl⟩)
  refine AnyF.take [118] (by decide +kernel) inferInstance (jjT (v := .bool true) rfl (fun w' q1 => ?_) (jjU ?_)); (refine jT rfl rfl rfl ?_; refine Ops.eqlS rfl rfl ?_; rw [decide_eq_true rfl]; refine jz ?_; exact ⟨rfl, rfl⟩)
  refine AnyF.take [119, 120, 121] (by decide +kernel) inferInstance ?_
  (((apply jjT; exact rfl; rintro w' hq; have := hq.toStep; apply jK rfl; exact eB rfl; refine jz ?_; exact ⟨rfl, rfl⟩; apply jjT; exact rfl; rintro w' hq; have := hq.toStep; apply jI; exact eB rfl; refine jz ?_; exact ⟨rfl, rfl⟩; apply jjT; exact rfl; rintro w' hq; have := hq.toStep; refine jT rfl rfl rfl ?_; apply jI; exact eS rfl; refine jz ?_; exact ⟨rfl, rfl⟩; refine jjU ?_)))
  refine AnyF.take [122] (by decide +kernel) inferInstance (jjT (v := .pointer (some ⟨pb, po + 2 * 6, none⟩)) rfl (fun w' q1 => ?_) (jjU ?_)); (refine jT rfl rfl rfl ?_; refine jH 2 rfl rfl rfl (by omega) ?_; refine jz ?_; exact ⟨rfl, rfl⟩)
  refine AnyF.take [123] (by decide +kernel) inferInstance (jjT (v := encSl exS[0]) rfl (fun w' q1 => ?_) (jjU ?_)); (refine jT rfl rfl rfl ?_; refine Ops.loadOA (off := 0) (P2.ext q1) rfl rfl rfl rfl ?_; refine jz ?_; exact ⟨rfl, rfl⟩)
  (apply AnyF.one 124; (decide +kernel); exact rfl; (exact inferInstance))
  refine jT rfl rfl rfl ?_
  refine jjQ (slips_law6 _) rfl rfl ?_
  rintro _ w44 hS44 ⟨e2, rfl, hQ2⟩
  refine jz ?_
  have Q2 : At w44 e2 (0 + 0 * 6) (encSl exS[0]).cells.toList := place_k hQ2 (j := 0) rfl
  (apply AnyF.one 125; (decide +kernel); exact rfl; (exact inferInstance))
  refine jT rfl rfl rfl ?_
  refine jH 0 rfl rfl rfl (by omega) ?_
  refine jz ?_
  (apply AnyF.one 126; (decide +kernel); exact rfl; (exact inferInstance))
  refine jT rfl rfl rfl ?_
  refine Ops.loadOA (off := 0) Q2 rfl rfl rfl rfl ?_
  refine jz ?_
  (apply AnyF.one 127; (decide +kernel); exact rfl; (exact inferInstance))
  refine jT rfl rfl rfl ?_
  refine Ops.eqlT (enc := encSl) exS[0] exS[0] rfl rfl ?_
  rw [decide_eq_true rfl]
  refine jz ?_
  refine AnyF.take [128, 129, 130] (by decide +kernel) inferInstance ?_
  (((apply jjT; exact rfl; rintro w' hq; have := hq.toStep; apply jK rfl; exact eB rfl; refine jz ?_; exact ⟨rfl, rfl⟩; apply jjT; exact rfl; rintro w' hq; have := hq.toStep; apply jI; exact eB rfl; refine jz ?_; exact ⟨rfl, rfl⟩; apply jjT; exact rfl; rintro w' hq; have := hq.toStep; refine jT rfl rfl rfl ?_; apply jI; exact eS rfl; refine jz ?_; exact ⟨rfl, rfl⟩; refine jjU ?_)))
  refine AnyF.take [131] (by decide +kernel) inferInstance (jjT (v := .pointer (some ⟨pb, po + 3 * 6, none⟩)) rfl (fun w' q1 => ?_) (jjU ?_)); (refine jT rfl rfl rfl ?_; refine jH 3 rfl rfl rfl (by omega) ?_; refine jz ?_; exact ⟨rfl, rfl⟩)
  refine AnyF.take [132] (by decide +kernel) inferInstance (jjT (v := encSl exS[2]) rfl (fun w' q1 => ?_) (jjU ?_)); (refine jT rfl rfl rfl ?_; refine Ops.loadOA (off := 0) (P3.ext q1) rfl rfl rfl rfl ?_; refine jz ?_; exact ⟨rfl, rfl⟩)
  (apply AnyF.one 133; (decide +kernel); exact rfl; (exact inferInstance))
  refine jT rfl rfl rfl ?_
  refine jjQ (slips_law6 _) rfl rfl ?_
  rintro _ w45 hS45 ⟨e3, rfl, hQ3⟩
  refine jz ?_
  have Q3 : At w45 e3 (0 + 2 * 6) (encSl exS[2]).cells.toList := place_k hQ3 (j := 2) rfl
  (apply AnyF.one 134; (decide +kernel); exact rfl; (exact inferInstance))
  refine jT rfl rfl rfl ?_
  refine jH 2 rfl rfl rfl (by omega) ?_
  refine jz ?_
  (apply AnyF.one 135; (decide +kernel); exact rfl; (exact inferInstance))
  refine jT rfl rfl rfl ?_
  refine Ops.loadOA (off := 0) Q3 rfl rfl rfl rfl ?_
  refine jz ?_
  (apply AnyF.one 136; (decide +kernel); exact rfl; (exact inferInstance))
  refine jT rfl rfl rfl ?_
  refine Ops.eqlT (enc := encSl) exS[2] exS[2] rfl rfl ?_
  rw [decide_eq_true rfl]
  refine jz ?_
  refine AnyF.take [137, 138] (by decide +kernel) inferInstance ?_
  (((apply jjT; exact rfl; rintro w' hq; have := hq.toStep; apply jK rfl; exact eB rfl; refine jz ?_; exact ⟨rfl, rfl⟩; apply jjT; exact rfl; rintro w' hq; have := hq.toStep; apply jJ; exact eB rfl; refine jz ?_; exact ⟨rfl, rfl⟩; refine jjU ?_)))
  refine AnyF.done (by decide +kernel) inferInstance ?_
  (refine jjF ?_; refine jB rfl rfl ⟨inferInstance, ?_⟩)
  exact rfl
end
end Go.Proofs.YtpijeomnplmakaaGreatDoor

/- The law RackRuns: runs. -/
namespace Go.Proofs.YtpijeomnplmakaaGreatDoor
open Go.RowKit

/-- Several roads to one place, one number left open: what is behind it is shown once. -/
theorem two_ways6 {P : Program} {ro : Option Nat} {n : Nat} {X : Ctx} {ds : List Deferred} {c : Code} {G : Prop} (D : List Nat) (sO : Sl) (w : World) (L : Int → List (Nat × Value)) (I : Int → Prop) (h1 : (∀ x, I x → ∀ s w', Step w w' → Same D sO s → AllEq s (L x) → W P ro n c X s ds w') → G) (h2 : ∀ x, I x → ∀ s0 w', Step w w' → Same D sO (upds s0 (L x)) → W P ro n c X (upds s0 (L x)) ds w') : G :=
  h1 fun x hx s w' hw hD hA => by have := h2 x hx s w' hw (by rw [upds_id hA]; exact hD); rwa [upds_id hA] at this
section
variable (a : Option Addr) (c : Nat) (d : List Int) (w : World) [hgb : At w 0 0 bysC] [hmx : MxI w] [hrow : RowI w (.slice a d.length c) false 1 (d.map intV)]
set_option maxHeartbeats 80000000 in
theorem RackRuns_law (hl' : d.length ≤ 1000000000000000) : Ct Tryz.prog 6 [.slice a d.length c] w fun v _ => v = .bool true := by
  refine Ct.ofW (by simp) ?_
  (refine jjB ?_; refine jjC ?_; apply jJ; exact eB rfl; refine jz ?_; refine jjB ?_; refine jjC ?_)
  refine jjQ (alive_law6 _) rfl rfl ?_
  rintro _ w1 hS1 rfl
  (apply jJ; exact eB rfl; refine jz ?_; refine jjB ?_; refine jjB ?_; refine jjC ?_; apply jI; exact eS rfl)
  refine jjQ (Deck_big a c d _ hl') rfl rfl ?_
  rintro _ w2 hS2 rfl
  by_cases hdk : deckB d = true
  rotate_left
  · rw [show deckB d = false by simpa using hdk]
    (refine jq rfl ?_; apply jI; exact eB rfl; refine jU rfl rfl rfl rfl ?_; refine jU rfl rfl rfl rfl ?_; apply jK rfl; exact eB rfl; refine jz ?_; refine jjJ rfl ?_; refine jjB ?_; refine jjC ?_; apply jI; exact eB rfl; apply jJ; exact eB rfl; refine jz ?_; refine jjF ?_; refine jB rfl rfl ⟨inferInstance, ?_⟩)
    exact rfl
  rw [hdk]
  have hd60 := deckB_len hdk
  have hl : d.length ≤ 1000000 := by omega
  have hop : ∀ b : Nat, 2 ≤ b → b ≤ 20 → opE d (b : Int) = 0 := fun b h1 h2 => by
    rw [opE, if_pos hdk, if_pos (by rw [inB, decide_eq_true_eq]; omega)]
  have hop2 : opE d 2 = 0 := hop 2 (by omega) (by omega)
  have hE60 := end_le hd60
  (refine jp rfl ?_; apply jI; exact eB rfl; refine jT rfl rfl rfl ?_; apply jI; exact eB rfl; refine jT rfl rfl rfl ?_; refine jp rfl ?_; apply jL rfl; exact eB rfl; refine jz ?_; refine jjK rfl ?_; refine jjG ?_; refine jjB ?_; refine jjC ?_; apply jI; exact eS rfl)
  refine jjQ (Runs_rack a c d _ hl) rfl rfl ?_
  rintro _ w3 hS3 hR0
  unfold RunsR at hR0
  rw [hop2, if_pos rfl] at hR0
  obtain ⟨ra, rc, rfl, hR⟩ := hR0
  have hNl := numF_len d
  have iR : RowI w3 (.slice ra (numF d).length rc) false 1 ((numF d).map intV) := ⟨hR⟩
  obtain ⟨E, hE⟩ : ∃ E, E = (endF d).length := ⟨_, rfl⟩
  have hmost : maxC (numF d) = (E : Int) := hE ▸ most_num d
  have hEd : 0 < d.length → E < d.length := fun h => hE ▸ end_lt h
  have hnum : ∀ x, x < d.length → 0 ≤ gd (numF d) x ∧ gd (numF d) x ≤ (E : Int) := fun x hx => hE ▸ num_le hx
  rw [← hE] at hE60
  (apply jI; exact eU rfl; refine ju rfl rfl ?_; refine ju rfl rfl ?_; apply jJ; exact eS rfl; apply jJ; exact eI rfl; refine jz ?_; refine jjB ?_; refine jjB ?_; refine jjC ?_; apply jI; exact eI rfl; refine jjk rfl rfl (by omega) ?_; apply jI; exact eB rfl; refine jT rfl rfl rfl ?_; apply jI; exact eS rfl; refine jT rfl rfl rfl ?_; refine jh rfl ?_; refine jT rfl rfl rfl ?_; apply jI; exact eS rfl; refine jT rfl rfl rfl ?_; refine jh rfl ?_; refine jT rfl rfl rfl ?_; refine jjk rfl rfl (by omega) ?_; apply jL rfl; exact eB rfl; refine jz ?_; refine jjK rfl ?_; refine jjG ?_; refine jjB ?_; refine jjC ?_; apply jJ; exact eI rfl; refine jz ?_; refine jjB ?_; refine jjB ?_; refine jjC ?_; apply jI; exact eS rfl; refine jh rfl ?_; apply jI; exact eI rfl; refine jz ?_; refine jjD ?_)
  have h0' : (0 : Int) = maxC ((numF d).take 0) := rfl
  refine W.keep0 [(0, .slice a d.length c), (3, .bool true), (4, .slice ra (numF d).length rc), (6, .int .i64 0), (41, .slice ra (numF d).length rc), (42, .int .i64 ((numF d).length : Int)), (43, .int .i64 ((0 : Nat) : Int))] ⟨eS rfl, eB rfl, eS rfl, eI rfl, eS rfl, eI rfl, eI rfl, trivial⟩ fun s0 => ?_
  refine W.loop (44 :: 45 :: 46 :: 47 :: 7 :: 8 :: 48 :: 49 :: 50 :: 51 :: 52 :: 53 :: 54 :: 55 :: 2 :: 56 :: 57 :: 58 :: 6 :: 59 :: 60 :: 61 :: 62 :: 9 :: 64 :: 65 :: 66 :: 67 :: 68 :: 69 :: 63 :: 70 :: 71 :: 72 :: 73 :: 74 :: 75 :: 76 :: 77 :: 78 :: 80 :: 81 :: 82 :: 83 :: 84 :: 85 :: 79 :: 86 :: 87 :: 88 :: 89 :: 90 :: 91 :: 92 :: 93 :: 94 :: 96 :: 97 :: 98 :: 99 :: 100 :: 101 :: 102 :: 103 :: 104 :: 95 :: 105 :: 106 :: 43 :: []) (fun g s' _ => ∃ i : Nat, s' 43 = .int .i64 (i : Int) ∧ s' 6 = .int .i64 (maxC ((numF d).take i)) ∧ g = d.length - i ∧ i ≤ d.length) d.length ⟨0, rfl, rfl, rfl, Nat.zero_le _⟩ ?_
  rintro _ sd V hSV ⟨i, h43, h6, rfl, hi⟩
  refine W.fix h43 (W.fix (d := 6) h6 ?_)
  clear h43 h6
  by_cases hi1 : i < d.length
  · have hNi : i < (numF d).length := by omega
    have hni := hnum i hi1
    have hEd' := hEd (by omega)
    have eN : (numF d)[i] = gd (numF d) i := (gd_lt hNi).symm
    have hmx1 : maxC ((numF d).take (i + 1)) = max (maxC ((numF d).take i)) (gd (numF d) i) := by
      rw [take_snoc_get (List.getElem?_eq_getElem hNi), maxC_snoc, eN]
    have gdi : (d.map intV)[i]? = some (intV (gd d i)) := by rw [List.getElem?_map, List.getElem?_eq_getElem hi1, gd_lt hi1]; rfl
    have gNi : ((numF d).map intV)[i]? = some (intV (gd (numF d) i)) := by rw [List.getElem?_map, List.getElem?_eq_getElem hNi, gd_lt hNi]; rfl
    obtain ⟨pb, po, rfl, -⟩ := hrow.h.place' gdi
    obtain ⟨qb, qo, rfl, -⟩ := hR.place' gNi
    generalize maxC ((numF d).take i) = M0 at *
    (refine jjB ?_; refine jjC ?_; refine jjZ rfl rfl (by omega) ?_; refine jz ?_; refine jjB ?_; refine jjJ rfl ?_; refine jjG ?_; refine jjB ?_; refine jjD ?_; refine jjB ?_; refine jjC ?_; apply jI; exact eI rfl; refine jF rfl rfl rfl (map_get (by omega)) ?_; intro _ _ _; refine jQ rfl rfl ?_; apply jJ; exact eI rfl; apply jJ; exact eI rfl; refine jz ?_; refine jjB ?_; refine jjB ?_; refine jjC ?_; apply jI; exact eI rfl; refine jja rfl rfl (by omega) ?_; apply jI; exact eB rfl; refine jT rfl rfl rfl ?_; apply jI; exact eI rfl; refine jT rfl rfl rfl ?_; apply jI; exact eS rfl; refine jT rfl rfl rfl ?_; refine jh rfl ?_; refine jT rfl rfl rfl ?_; refine jjg rfl rfl (by omega) ?_; apply jL rfl; exact eB rfl; refine jz ?_; refine jjK rfl ?_; refine jjG ?_; refine jjB ?_; refine jjC ?_; apply jI; exact eI rfl; apply jI; exact eI rfl; refine jk rfl rfl ?_; apply jJ; exact eI rfl; refine jz ?_; refine jjB ?_; refine jjC ?_; apply jI; exact eI rfl; apply jI; exact eI rfl; refine jz ?_; refine jjD ?_)
    obtain ⟨M1, hM1⟩ : ∃ M1, M1 = maxC ((numF d).take (i + 1)) := ⟨_, rfl⟩
    rw [eN, ← hmx1, ← hM1]
    skip
    refine W.keep [(0, .slice (some ⟨pb, po, none⟩) d.length c), (3, .bool true), (4, .slice (some ⟨qb, qo, none⟩) (numF d).length rc), (6, .int .i64 M1), (7, .int .i64 (i : Int)), (8, .int .i64 (gd (numF d) i)), (41, .slice (some ⟨qb, qo, none⟩) (numF d).length rc), (42, .int .i64 ((numF d).length : Int)), (43, .int .i64 (i : Int)), (59, .int .i64 (i : Int)), (60, .int .i64 ((0 : Nat) : Int))] (D := (44 :: 45 :: 46 :: 47 :: 7 :: 8 :: 48 :: 49 :: 50 :: 51 :: 52 :: 53 :: 54 :: 55 :: 2 :: 56 :: 57 :: 58 :: 6 :: 59 :: 60 :: 61 :: 62 :: 9 :: 64 :: 65 :: 66 :: 67 :: 68 :: 69 :: 63 :: 70 :: 71 :: 72 :: 73 :: 74 :: 75 :: 76 :: 77 :: 78 :: 80 :: 81 :: 82 :: 83 :: 84 :: 85 :: 79 :: 86 :: 87 :: 88 :: 89 :: 90 :: 91 :: 92 :: 93 :: 94 :: 96 :: 97 :: 98 :: 99 :: 100 :: 101 :: 102 :: 103 :: 104 :: 95 :: 105 :: 106 :: 43 :: [])) (sO := upds s0 _) (by ((refine Same.upd rfl ?_; refine Same.upd rfl ?_; refine Same.upd rfl ?_; refine Same.upd rfl ?_; refine Same.upd rfl ?_; refine Same.upd rfl ?_; refine Same.upd rfl ?_; refine Same.upd rfl ?_; refine Same.upd rfl ?_; refine Same.upd rfl ?_; refine Same.upd rfl ?_; refine Same.upd rfl ?_; refine Same.upd rfl ?_; refine Same.upd rfl ?_; refine Same.upd rfl ?_; refine Same.upd rfl ?_; refine Same.upd rfl ?_; refine Same.upd rfl ?_; refine Same.upd rfl ?_; refine Same.upd rfl ?_; refine Same.upd rfl ?_; refine Same.upd rfl ?_; exact Same.ovN))) ⟨eS rfl, eB rfl, eS rfl, eI rfl, eI rfl, eI rfl, eS rfl, eI rfl, eI rfl, eI rfl, eI rfl, trivial⟩ fun s1 hs1 => ?_
    refine W.loop (61 :: 62 :: 9 :: 64 :: 65 :: 66 :: 67 :: 68 :: 69 :: 63 :: 70 :: 71 :: 72 :: 73 :: 74 :: 75 :: 76 :: 77 :: 78 :: 2 :: 80 :: 81 :: 82 :: 83 :: 84 :: 85 :: 79 :: 86 :: 87 :: 88 :: 89 :: 90 :: 91 :: 92 :: 93 :: 94 :: 96 :: 97 :: 98 :: 99 :: 100 :: 101 :: 102 :: 103 :: 104 :: 95 :: 105 :: 60 :: []) (fun g s' _ => ∃ k : Nat, s' 60 = .int .i64 (k : Int) ∧ g = i - k ∧ k ≤ i) i ⟨0, rfl, rfl, Nat.zero_le _⟩ ?_
    rintro _ sd2 V2 hSV2 ⟨k, h60, rfl, hk⟩
    refine W.fix h60 ?_
    clear h60
    by_cases hk1 : k < i
    rotate_left
    · (refine jjB ?_; refine jjC ?_; refine jja rfl rfl (by omega) ?_; refine jz ?_; refine jjB ?_; refine jjK rfl ?_; refine jjE ?_; refine jjC ?_; refine jY rfl rfl (by omega) ?_; apply jI; exact eI rfl; refine jz ?_)
      exact ⟨rfl, by ((refine Same.upd rfl ?_; refine Same.upd rfl ?_; refine Same.upd rfl ?_; refine Same.upd rfl ?_; refine Same.ovN' rfl ?_; assumption)), d.length - (i + 1), by omega, inferInstance, i + 1, congrArg (Value.int .i64) (by omega), congrArg (Value.int .i64) hM1, rfl, by omega⟩
    have hcase := run_cases hk1 hi1
    have hkd : k < d.length := by omega
    have gdk : (d.map intV)[k]? = some (intV (gd d k)) := by rw [List.getElem?_map, List.getElem?_eq_getElem hkd, gd_lt hkd]; rfl
    have gNk : ((numF d).map intV)[k]? = some (intV (gd (numF d) k)) := by rw [List.getElem?_map, List.getElem?_eq_getElem (by omega), gd_lt (by omega)]; rfl
    have Dk : At V2 pb (po + k * 1) [intV (gd d k)] := place_r (hrow.h.ext inferInstance) gdk
    have Di : At V2 pb (po + i * 1) [intV (gd d i)] := place_r (hrow.h.ext inferInstance) gdi
    have eNk : (numF d)[k]'(by omega) = gd (numF d) k := (gd_lt (by omega)).symm
    by_cases e1 : gd (numF d) k = gd (numF d) i
    · have := hcase.1 (by omega)
      (refine jjB ?_; refine jjC ?_; refine jjZ rfl rfl (by omega) ?_; refine jz ?_; refine jjB ?_; refine jjJ rfl ?_; refine jjG ?_; refine jjB ?_; refine jjD ?_; refine jjB ?_; refine jjC ?_; apply jI; exact eI rfl; apply jJ; exact eI rfl; refine jz ?_; refine jjD ?_; refine jjB ?_; refine jjC ?_; apply jI; exact eS rfl; apply jI; exact eI rfl; refine jF rfl rfl rfl (map_get (by omega)) ?_; intro _ _ _; refine jQ rfl rfl ?_; apply jI; exact eI rfl; refine jjh rfl rfl (by omega) ?_; apply jJ; exact eB rfl; refine jz ?_; refine jjJ rfl ?_; refine jjB ?_)
      refine W.draw (fun w' => Ext V2 w') ?_
      intro w5 hS5
      refine jjV [0, 1] (by decide +kernel) hS5.ext ?_
      (((apply jjT; exact rfl; rintro w' hq; have := hq.toStep; apply jI; exact eS rfl; refine jz ?_; exact ⟨rfl, rfl⟩; apply jjT; exact rfl; rintro w' hq; have := hq.toStep; apply jI; exact eI rfl; refine jz ?_; exact ⟨rfl, rfl⟩; refine jjU ?_)))
      refine jjV [2] (by decide +kernel) hS5.ext (jjT (v := .pointer (some ⟨pb, po + k * 1, none⟩)) rfl (fun w' q1 => ?_) (jjU ?_)); (refine jH (k) rfl rfl rfl (by omega) ?_; refine jz ?_; exact ⟨rfl, rfl⟩)
      refine jjV [3] (by decide +kernel) hS5.ext (jjT (v := .int .i64 (gd d k)) rfl (fun w' q1 => ?_) (jjU ?_)); (refine jR ((Dk.ext q1).get (i := 0) rfl) rfl rfl ?_; refine jz ?_; exact ⟨rfl, rfl⟩)
      refine jjV [4, 5] (by decide +kernel) hS5.ext ?_
      (((apply jjT; exact rfl; rintro w' hq; have := hq.toStep; apply jI; exact eS rfl; refine jz ?_; exact ⟨rfl, rfl⟩; apply jjT; exact rfl; rintro w' hq; have := hq.toStep; apply jI; exact eI rfl; refine jz ?_; exact ⟨rfl, rfl⟩; refine jjU ?_)))
      refine jjV [6] (by decide +kernel) hS5.ext (jjT (v := .pointer (some ⟨pb, po + i * 1, none⟩)) rfl (fun w' q1 => ?_) (jjU ?_)); (refine jH (i) rfl rfl rfl (by omega) ?_; refine jz ?_; exact ⟨rfl, rfl⟩)
      refine jjV [7] (by decide +kernel) hS5.ext (jjT (v := .int .i64 (gd d i)) rfl (fun w' q1 => ?_) (jjU ?_)); (refine jR ((Di.ext q1).get (i := 0) rfl) rfl rfl ?_; refine jz ?_; exact ⟨rfl, rfl⟩)
      refine jjV [8] (by decide +kernel) hS5.ext ?_
      (((apply jjT; exact rfl; rintro w' hq; have := hq.toStep; refine jje rfl rfl (by omega) ?_; refine jz ?_; exact ⟨rfl, rfl⟩; refine jjU ?_)))
      refine jjX (by decide +kernel) inferInstance ?_
      (refine jjK rfl ?_; refine jjG ?_; refine jjC ?_; refine jY rfl rfl (by omega) ?_; apply jI; exact eI rfl; refine jz ?_)
      exact ⟨rfl, by ((refine Same.upd rfl ?_; refine Same.upd rfl ?_; refine Same.upd rfl ?_; refine Same.upd rfl ?_; refine Same.upd rfl ?_; refine Same.upd rfl ?_; refine Same.upd rfl ?_; refine Same.upd rfl ?_; refine Same.upd rfl ?_; refine Same.upd rfl ?_; refine Same.upd rfl ?_; refine Same.upd rfl ?_; refine Same.upd rfl ?_; refine Same.upd rfl ?_; refine Same.upd rfl ?_; refine Same.upd rfl ?_; refine Same.upd rfl ?_; refine Same.upd rfl ?_; refine Same.upd rfl ?_; refine Same.upd rfl ?_; refine Same.upd rfl ?_; refine Same.upd rfl ?_; exact Same.ovN)), i - (k + 1), by omega, inferInstance, k + 1, congrArg (Value.int .i64) (by omega), rfl, by omega⟩
    by_cases e2 : gd (numF d) k < gd (numF d) i
    · have := hcase.1 (by omega)
      (refine jjB ?_; refine jjC ?_; refine jjZ rfl rfl (by omega) ?_; refine jz ?_; refine jjB ?_; refine jjJ rfl ?_; refine jjG ?_; refine jjB ?_; refine jjD ?_; refine jjB ?_; refine jjC ?_; apply jI; exact eI rfl; apply jJ; exact eI rfl; refine jz ?_; refine jjD ?_; refine jjB ?_; refine jjC ?_; apply jI; exact eS rfl; apply jI; exact eI rfl; refine jF rfl rfl rfl (map_get (by omega)) ?_; intro _ _ _; refine jQ rfl rfl ?_; apply jI; exact eI rfl; refine jji rfl rfl (by omega) ?_; apply jJ; exact eB rfl; refine jz ?_; refine jjK rfl ?_; refine jjB ?_; refine jjC ?_; apply jI; exact eS rfl; apply jI; exact eI rfl; refine jF rfl rfl rfl (map_get (by omega)) ?_; intro _ _ _; refine jQ rfl rfl ?_; apply jI; exact eI rfl; refine jjZ rfl rfl (by omega) ?_; apply jJ; exact eB rfl; refine jz ?_; refine jjJ rfl ?_; refine jjB ?_)
      refine W.draw (fun w' => Ext V2 w') ?_
      intro w5 hS5
      refine jjV [0, 1] (by decide +kernel) hS5.ext ?_
      (((apply jjT; exact rfl; rintro w' hq; have := hq.toStep; apply jI; exact eS rfl; refine jz ?_; exact ⟨rfl, rfl⟩; apply jjT; exact rfl; rintro w' hq; have := hq.toStep; apply jI; exact eI rfl; refine jz ?_; exact ⟨rfl, rfl⟩; refine jjU ?_)))
      refine jjV [2] (by decide +kernel) hS5.ext (jjT (v := .pointer (some ⟨pb, po + k * 1, none⟩)) rfl (fun w' q1 => ?_) (jjU ?_)); (refine jH (k) rfl rfl rfl (by omega) ?_; refine jz ?_; exact ⟨rfl, rfl⟩)
      refine jjV [3] (by decide +kernel) hS5.ext (jjT (v := .int .i64 (gd d k)) rfl (fun w' q1 => ?_) (jjU ?_)); (refine jR ((Dk.ext q1).get (i := 0) rfl) rfl rfl ?_; refine jz ?_; exact ⟨rfl, rfl⟩)
      refine jjV [4, 5] (by decide +kernel) hS5.ext ?_
      (((apply jjT; exact rfl; rintro w' hq; have := hq.toStep; apply jI; exact eS rfl; refine jz ?_; exact ⟨rfl, rfl⟩; apply jjT; exact rfl; rintro w' hq; have := hq.toStep; apply jI; exact eI rfl; refine jz ?_; exact ⟨rfl, rfl⟩; refine jjU ?_)))
      refine jjV [6] (by decide +kernel) hS5.ext (jjT (v := .pointer (some ⟨pb, po + i * 1, none⟩)) rfl (fun w' q1 => ?_) (jjU ?_)); (refine jH (i) rfl rfl rfl (by omega) ?_; refine jz ?_; exact ⟨rfl, rfl⟩)
      refine jjV [7] (by decide +kernel) hS5.ext (jjT (v := .int .i64 (gd d i)) rfl (fun w' q1 => ?_) (jjU ?_)); (refine jR ((Di.ext q1).get (i := 0) rfl) rfl rfl ?_; refine jz ?_; exact ⟨rfl, rfl⟩)
      refine jjV [8] (by decide +kernel) hS5.ext ?_
      (((apply jjT; exact rfl; rintro w' hq; have := hq.toStep; refine jje rfl rfl (by omega) ?_; refine jz ?_; exact ⟨rfl, rfl⟩; refine jjU ?_)))
      refine jjX (by decide +kernel) inferInstance ?_
      (refine jjK rfl ?_; refine jjG ?_; refine jjC ?_; refine jY rfl rfl (by omega) ?_; apply jI; exact eI rfl; refine jz ?_)
      exact ⟨rfl, by ((refine Same.upd rfl ?_; refine Same.upd rfl ?_; refine Same.upd rfl ?_; refine Same.upd rfl ?_; refine Same.upd rfl ?_; refine Same.upd rfl ?_; refine Same.upd rfl ?_; refine Same.upd rfl ?_; refine Same.upd rfl ?_; refine Same.upd rfl ?_; refine Same.upd rfl ?_; refine Same.upd rfl ?_; refine Same.upd rfl ?_; refine Same.upd rfl ?_; refine Same.upd rfl ?_; refine Same.upd rfl ?_; refine Same.upd rfl ?_; refine Same.upd rfl ?_; refine Same.upd rfl ?_; refine Same.upd rfl ?_; refine Same.upd rfl ?_; refine Same.upd rfl ?_; refine Same.upd rfl ?_; refine Same.upd rfl ?_; refine Same.upd rfl ?_; refine Same.upd rfl ?_; refine Same.upd rfl ?_; refine Same.upd rfl ?_; refine Same.upd rfl ?_; exact Same.ovN)), i - (k + 1), by omega, inferInstance, k + 1, congrArg (Value.int .i64) (by omega), rfl, by omega⟩
    have := hcase.2 (by omega)
    (refine jjB ?_; refine jjC ?_; refine jjZ rfl rfl (by omega) ?_; refine jz ?_; refine jjB ?_; refine jjJ rfl ?_; refine jjG ?_; refine jjB ?_; refine jjD ?_; refine jjB ?_; refine jjC ?_; apply jI; exact eI rfl; apply jJ; exact eI rfl; refine jz ?_; refine jjD ?_; refine jjB ?_; refine jjC ?_; apply jI; exact eS rfl; apply jI; exact eI rfl; refine jF rfl rfl rfl (map_get (by omega)) ?_; intro _ _ _; refine jQ rfl rfl ?_; apply jI; exact eI rfl; refine jji rfl rfl (by omega) ?_; apply jJ; exact eB rfl; refine jz ?_; refine jjK rfl ?_; refine jjB ?_; refine jjC ?_; apply jI; exact eS rfl; apply jI; exact eI rfl; refine jF rfl rfl rfl (map_get (by omega)) ?_; intro _ _ _; refine jQ rfl rfl ?_; apply jI; exact eI rfl; refine jja rfl rfl (by omega) ?_; apply jJ; exact eB rfl; refine jz ?_; refine jjK rfl ?_; refine jjB ?_)
    refine W.draw (fun w' => Ext V2 w') ?_
    intro w5 hS5
    refine jjV [0, 1] (by decide +kernel) hS5.ext ?_
    (((apply jjT; exact rfl; rintro w' hq; have := hq.toStep; apply jI; exact eS rfl; refine jz ?_; exact ⟨rfl, rfl⟩; apply jjT; exact rfl; rintro w' hq; have := hq.toStep; apply jI; exact eI rfl; refine jz ?_; exact ⟨rfl, rfl⟩; refine jjU ?_)))
    refine jjV [2] (by decide +kernel) hS5.ext (jjT (v := .pointer (some ⟨pb, po + k * 1, none⟩)) rfl (fun w' q1 => ?_) (jjU ?_)); (refine jH (k) rfl rfl rfl (by omega) ?_; refine jz ?_; exact ⟨rfl, rfl⟩)
    refine jjV [3] (by decide +kernel) hS5.ext (jjT (v := .int .i64 (gd d k)) rfl (fun w' q1 => ?_) (jjU ?_)); (refine jR ((Dk.ext q1).get (i := 0) rfl) rfl rfl ?_; refine jz ?_; exact ⟨rfl, rfl⟩)
    refine jjV [4, 5] (by decide +kernel) hS5.ext ?_
    (((apply jjT; exact rfl; rintro w' hq; have := hq.toStep; apply jI; exact eS rfl; refine jz ?_; exact ⟨rfl, rfl⟩; apply jjT; exact rfl; rintro w' hq; have := hq.toStep; apply jI; exact eI rfl; refine jz ?_; exact ⟨rfl, rfl⟩; refine jjU ?_)))
    refine jjV [6] (by decide +kernel) hS5.ext (jjT (v := .pointer (some ⟨pb, po + i * 1, none⟩)) rfl (fun w' q1 => ?_) (jjU ?_)); (refine jH (i) rfl rfl rfl (by omega) ?_; refine jz ?_; exact ⟨rfl, rfl⟩)
    refine jjV [7] (by decide +kernel) hS5.ext (jjT (v := .int .i64 (gd d i)) rfl (fun w' q1 => ?_) (jjU ?_)); (refine jR ((Di.ext q1).get (i := 0) rfl) rfl rfl ?_; refine jz ?_; exact ⟨rfl, rfl⟩)
    refine jjV [8, 9] (by decide +kernel) hS5.ext ?_
    (((apply jjT; exact rfl; rintro w' hq; have := hq.toStep; refine jjc rfl rfl (by omega) ?_; refine jz ?_; exact ⟨rfl, rfl⟩; apply jjT; exact rfl; rintro w' hq; have := hq.toStep; apply jJ; exact eB rfl; refine jz ?_; exact ⟨rfl, rfl⟩; refine jjU ?_)))
    refine jjX (by decide +kernel) inferInstance ?_
    (refine jjK rfl ?_; refine jjG ?_; refine jjC ?_; refine jY rfl rfl (by omega) ?_; apply jI; exact eI rfl; refine jz ?_)
    exact ⟨rfl, by ((refine Same.upd rfl ?_; refine Same.upd rfl ?_; refine Same.upd rfl ?_; refine Same.upd rfl ?_; refine Same.upd rfl ?_; refine Same.upd rfl ?_; refine Same.upd rfl ?_; refine Same.upd rfl ?_; refine Same.upd rfl ?_; refine Same.upd rfl ?_; refine Same.upd rfl ?_; refine Same.upd rfl ?_; refine Same.upd rfl ?_; refine Same.upd rfl ?_; refine Same.upd rfl ?_; refine Same.upd rfl ?_; refine Same.upd rfl ?_; refine Same.upd rfl ?_; refine Same.upd rfl ?_; refine Same.upd rfl ?_; refine Same.upd rfl ?_; refine Same.upd rfl ?_; refine Same.upd rfl ?_; refine Same.upd rfl ?_; refine Same.upd rfl ?_; refine Same.upd rfl ?_; refine Same.upd rfl ?_; refine Same.upd rfl ?_; refine Same.upd rfl ?_; refine Same.upd rfl ?_; exact Same.ovN)), i - (k + 1), by omega, inferInstance, k + 1, congrArg (Value.int .i64) (by omega), rfl, by omega⟩
  obtain rfl : i = d.length := by omega
  rw [List.take_of_length_le (by omega), hmost]
  (refine jjB ?_; refine jjC ?_; refine jja rfl rfl (by omega) ?_; refine jz ?_; refine jjB ?_; refine jjK rfl ?_; refine jjE ?_; refine jjB ?_; refine jjB ?_; refine jjC ?_; apply jJ; exact eI rfl; refine jz ?_; refine jjD ?_)
  refine W.keep0 [(0, .slice a d.length c), (3, .bool true), (4, .slice ra (numF d).length rc), (6, .int .i64 (E : Int)), (10, .int .i64 ((0 + 1 : Nat) : Int))] ⟨eS rfl, eB rfl, eS rfl, eI rfl, eI rfl, trivial⟩ fun s2 => ?_
  refine W.loop (107 :: 108 :: 109 :: 11 :: 12 :: 112 :: 113 :: 114 :: 115 :: 116 :: 117 :: 118 :: 13 :: 14 :: 119 :: 120 :: 121 :: 122 :: 123 :: 124 :: 125 :: 126 :: 127 :: 128 :: 129 :: 130 :: 131 :: 132 :: 133 :: 134 :: 135 :: 136 :: 137 :: 138 :: 139 :: 140 :: 141 :: 142 :: 143 :: 144 :: 145 :: 146 :: 147 :: 148 :: 149 :: 150 :: 151 :: 152 :: 153 :: 154 :: 155 :: 156 :: 157 :: 158 :: 159 :: 160 :: 161 :: 162 :: 163 :: 164 :: 165 :: 166 :: 167 :: 168 :: 169 :: 2 :: 110 :: 111 :: 10 :: []) (fun g s' _ => ∃ n : Nat, s' 10 = .int .i64 ((n + 1 : Nat) : Int) ∧ g = E - n ∧ n ≤ E) E ⟨0, rfl, rfl, Nat.zero_le _⟩ ?_
  rintro _ sd3 V3 hSV3 ⟨n, h10, rfl, hn⟩
  refine W.fix h10 ?_
  clear h10
  by_cases hn1 : n < E
  · have hd0 : 0 < d.length := by
      rcases Nat.eq_zero_or_pos d.length with h | h
      · have : (endF d).length = 0 := by rw [end_len, h]; rfl
        omega
      · exact h
    obtain ⟨m, hm⟩ : ∃ m : Nat, m = n + 1 := ⟨_, rfl⟩
    have hm1 : ((n + 1 : Nat) : Int) - 1 = (m : Int) - 1 := by omega
    have gd0 : (d.map intV)[0]? = some (intV (gd d 0)) := by rw [List.getElem?_map, List.getElem?_eq_getElem hd0, gd_lt hd0]; rfl
    obtain ⟨pb, po, rfl, -⟩ := hrow.h.place' gd0
    have Dat : ∀ (V : World) (k : Nat), Ext w V → k < d.length → At V pb (po + k * 1) [intV (gd d k)] := fun V k hV hk => place_r (x := intV (gd d k)) (hrow.h.ext hV) (by rw [List.getElem?_map, List.getElem?_eq_getElem hk, gd_lt hk]; rfl)
    have hE3 : Ext w V3 := inferInstance
    (refine jjB ?_; refine jjB ?_; refine jjC ?_; apply jI; exact eI rfl; apply jI; exact eI rfl; refine jjb rfl rfl (by omega) ?_; refine jz ?_; refine jjJ rfl ?_; refine jjG ?_; refine jjB ?_; refine jjD ?_; refine jjB ?_; refine jjC ?_; apply jJ; exact eI rfl; apply jJ; exact eI rfl; refine jz ?_; refine jjB ?_; refine jjB ?_; refine jjC ?_; apply jI; exact eS rfl; refine jh rfl ?_; apply jI; exact eI rfl; refine jz ?_; refine jjD ?_)
    refine W.keep [(0, .slice (some ⟨pb, po, none⟩) d.length c), (3, .bool true), (4, .slice ra (numF d).length rc), (6, .int .i64 (E : Int)), (10, .int .i64 ((n + 1 : Nat) : Int)), (11, .int .i64 (-1)), (12, .int .i64 (-1)), (112, .slice ra (numF d).length rc), (113, .int .i64 ((numF d).length : Int)), (114, .int .i64 ((0 : Nat) : Int))] (D := (107 :: 108 :: 109 :: 11 :: 12 :: 112 :: 113 :: 114 :: 115 :: 116 :: 117 :: 118 :: 13 :: 14 :: 119 :: 120 :: 121 :: 122 :: 123 :: 124 :: 125 :: 126 :: 127 :: 128 :: 129 :: 130 :: 131 :: 132 :: 133 :: 134 :: 135 :: 136 :: 137 :: 138 :: 139 :: 140 :: 141 :: 142 :: 143 :: 144 :: 145 :: 146 :: 147 :: 148 :: 149 :: 150 :: 151 :: 152 :: 153 :: 154 :: 155 :: 156 :: 157 :: 158 :: 159 :: 160 :: 161 :: 162 :: 163 :: 164 :: 165 :: 166 :: 167 :: 168 :: 169 :: 2 :: 110 :: 111 :: 10 :: [])) (sO := upds s2 _) (by ((refine Same.upd rfl ?_; refine Same.upd rfl ?_; refine Same.upd rfl ?_; refine Same.upd rfl ?_; refine Same.upd rfl ?_; refine Same.upd rfl ?_; refine Same.upd rfl ?_; refine Same.upd rfl ?_; refine Same.upd rfl ?_; exact Same.ovN))) ⟨eS rfl, eB rfl, eS rfl, eI rfl, eI rfl, eI rfl, eI rfl, eS rfl, eI rfl, eI rfl, trivial⟩ fun s3 hs3 => ?_
    refine W.loop (115 :: 116 :: 117 :: 118 :: 13 :: 14 :: 119 :: 120 :: 121 :: 122 :: 123 :: 124 :: 125 :: 126 :: 127 :: 128 :: 129 :: 130 :: 131 :: 132 :: 133 :: 134 :: 135 :: 136 :: 137 :: 138 :: 11 :: 139 :: 140 :: 141 :: 142 :: 143 :: 144 :: 145 :: 146 :: 147 :: 148 :: 149 :: 150 :: 151 :: 152 :: 153 :: 154 :: 155 :: 156 :: 157 :: 12 :: 158 :: 114 :: []) (fun g s' _ => ∃ (k : Nat) (x y : Int), s' 114 = .int .i64 (k : Int) ∧ s' 11 = .int .i64 x ∧ s' 12 = .int .i64 y ∧ g = d.length - k ∧ k ≤ d.length ∧ LasI d ((m : Int) - 1) k x ∧ FstI d (m : Int) k y) d.length ⟨0, -1, -1, rfl, rfl, rfl, rfl, Nat.zero_le _, .inl ⟨rfl, fun i h => absurd h (Nat.not_lt_zero _)⟩, .inl ⟨rfl, fun i h => absurd h (Nat.not_lt_zero _)⟩⟩ ?_
    rintro _ sd4 V4 hSV4 ⟨k, x, y, h114, h11, h12, rfl, hk, hL, hF⟩
    refine W.fix h114 (W.fix (d := 11) h11 (W.fix (d := 12) h12 ?_))
    clear h114 h11 h12
    by_cases hk1 : k < d.length
    rotate_left
    · obtain rfl : k = d.length := by omega
      obtain ⟨r1, r2, r3⟩ := run_end (by omega) (by omega) hL hF
      (refine jjB ?_; refine jjC ?_; refine jja rfl rfl (by omega) ?_; refine jz ?_; refine jjB ?_; refine jjK rfl ?_; refine jjE ?_; refine jjB ?_; refine jjC ?_; apply jI; exact eI rfl; refine jja rfl rfl (by omega) ?_; apply jI; exact eB rfl; refine jT rfl rfl rfl ?_; apply jI; exact eI rfl; refine jT rfl rfl rfl ?_; refine jja rfl rfl (by omega) ?_; apply jL rfl; exact eB rfl; apply jI; exact eB rfl; refine jT rfl rfl rfl ?_; apply jI; exact eI rfl; refine jT rfl rfl rfl ?_; apply jI; exact eI rfl; refine jT rfl rfl rfl ?_; refine jje rfl rfl (by omega) ?_; apply jL rfl; exact eB rfl; refine jz ?_; refine jjK rfl ?_; refine jjG ?_; refine jjC ?_; apply jI; exact eI rfl; refine jY rfl rfl (by omega) ?_; apply jJ; exact eI rfl; refine jz ?_)
      exact ⟨rfl, by ((refine Same.upd rfl ?_; refine Same.upd rfl ?_; refine Same.upd rfl ?_; refine Same.upd rfl ?_; refine Same.upd rfl ?_; refine Same.upd rfl ?_; refine Same.upd rfl ?_; refine Same.upd rfl ?_; refine Same.upd rfl ?_; refine Same.upd rfl ?_; refine Same.upd rfl ?_; refine Same.upd rfl ?_; refine Same.upd rfl ?_; refine Same.upd rfl ?_; refine Same.upd rfl ?_; refine Same.upd rfl ?_; refine Same.upd rfl ?_; refine Same.upd rfl ?_; refine Same.ovN' rfl ?_; assumption)), E - (n + 1), by omega, inferInstance, n + 1, congrArg (Value.int .i64) (by omega), rfl, by omega⟩
    have eNk : (numF d)[k]'(by omega) = gd (numF d) k := (gd_lt (by omega)).symm
    have hnk := hnum k hk1
    have hEV4 : Ext w V4 := inferInstance
    (refine jjB ?_; refine jjC ?_; refine jjZ rfl rfl (by omega) ?_; refine jz ?_; refine jjB ?_; refine jjJ rfl ?_; refine jjG ?_; refine jjB ?_; refine jjD ?_; refine jjB ?_; refine jjC ?_; apply jI; exact eI rfl; refine jF rfl rfl rfl (map_get (by omega)) ?_; intro _ _ _; refine jQ rfl rfl ?_; apply jJ; exact eI rfl; apply jJ; exact eI rfl; refine jz ?_; refine jjB ?_; refine jjB ?_)
    rw [eNk]
    apply two_ways6 (115 :: 116 :: 117 :: 118 :: 13 :: 14 :: 119 :: 120 :: 121 :: 122 :: 123 :: 124 :: 125 :: 126 :: 127 :: 128 :: 129 :: 130 :: 131 :: 132 :: 133 :: 134 :: 135 :: 136 :: 137 :: 138 :: 11 :: 139 :: 140 :: 141 :: 142 :: 143 :: 144 :: 145 :: 146 :: 147 :: 148 :: 149 :: 150 :: 151 :: 152 :: 153 :: 154 :: 155 :: 156 :: 157 :: 12 :: 158 :: 114 :: []) (upds s3 _) V4 (fun x' => [(0, .slice (some ⟨pb, po, none⟩) d.length c), (3, .bool true), (4, .slice ra (numF d).length rc), (6, .int .i64 (E : Int)), (10, .int .i64 ((n + 1 : Nat) : Int)), (11, .int .i64 x'), (12, .int .i64 y), (13, .int .i64 (k : Int)), (14, .int .i64 (gd (numF d) k)), (112, .slice ra (numF d).length rc), (113, .int .i64 ((numF d).length : Int)), (114, .int .i64 (k : Int))]) (fun x' => LasI d ((m : Int) - 1) (k + 1) x')
    · intro rest
      by_cases e1 : gd (numF d) k = (m : Int) - 1
      rotate_left
      · have hL' := hL.skip e1
        skip
        refine W.draw (fun w' => Ext V4 w') ?_
        intro w5 hS5
        refine jjV [0, 1, 2, 3, 4, 5, 6, 7, 8, 9, 10, 11, 12, 13, 14, 15, 16, 17, 18] (by decide +kernel) hS5.ext ?_
        (((apply jjT; exact rfl; rintro w' hq; have := hq.toStep; apply jI; exact eI rfl; refine jz ?_; exact ⟨rfl, rfl⟩; apply jjT; exact rfl; rintro w' hq; have := hq.toStep; apply jI; exact eI rfl; refine jz ?_; exact ⟨rfl, rfl⟩; apply jjT; exact rfl; rintro w' hq; have := hq.toStep; refine jZ rfl rfl (by omega) ?_; refine jz ?_; exact ⟨rfl, rfl⟩; apply jjT; exact rfl; rintro w' hq; have := hq.toStep; refine jji rfl rfl (by omega) ?_; refine jz ?_; exact ⟨rfl, rfl⟩; apply jjT; exact rfl; rintro w' hq; have := hq.toStep; apply jI; exact eB rfl; refine jz ?_; exact ⟨rfl, rfl⟩; apply jjT; exact rfl; rintro w' hq; have := hq.toStep; refine jU rfl rfl rfl rfl ?_; refine jz ?_; exact ⟨rfl, rfl⟩; apply jjT; exact rfl; rintro w' hq; have := hq.toStep; refine jU rfl rfl rfl rfl ?_; refine jz ?_; exact ⟨rfl, rfl⟩; apply jjT; exact rfl; rintro w' hq; have := hq.toStep; refine jU rfl rfl rfl rfl ?_; refine jz ?_; exact ⟨rfl, rfl⟩; apply jjT; exact rfl; rintro w' hq; have := hq.toStep; refine jV rfl rfl ?_; refine jz ?_; exact ⟨rfl, rfl⟩; apply jjT; exact rfl; rintro w' hq; have := hq.toStep; refine jV rfl rfl ?_; refine jz ?_; exact ⟨rfl, rfl⟩; apply jjT; exact rfl; rintro w' hq; have := hq.toStep; refine jV rfl rfl ?_; refine jz ?_; exact ⟨rfl, rfl⟩; apply jjT; exact rfl; rintro w' hq; have := hq.toStep; refine jV rfl rfl ?_; refine jz ?_; exact ⟨rfl, rfl⟩; apply jjT; exact rfl; rintro w' hq; have := hq.toStep; refine jV rfl rfl ?_; refine jz ?_; exact ⟨rfl, rfl⟩; apply jjT; exact rfl; rintro w' hq; have := hq.toStep; refine jV rfl rfl ?_; refine jz ?_; exact ⟨rfl, rfl⟩; apply jjT; exact rfl; rintro w' hq; have := hq.toStep; refine jV rfl rfl ?_; refine jz ?_; exact ⟨rfl, rfl⟩; apply jjT; exact rfl; rintro w' hq; have := hq.toStep; refine jV rfl rfl ?_; refine jz ?_; exact ⟨rfl, rfl⟩; apply jjT; exact rfl; rintro w' hq; have := hq.toStep; refine jV rfl rfl ?_; refine jz ?_; exact ⟨rfl, rfl⟩; apply jjT; exact rfl; rintro w' hq; have := hq.toStep; refine jU rfl rfl rfl rfl ?_; refine jz ?_; exact ⟨rfl, rfl⟩; apply jjT; exact rfl; rintro w' hq; have := hq.toStep; apply jL rfl; exact eB rfl; refine jz ?_; exact ⟨rfl, rfl⟩; refine jjU ?_)))
        refine jjX (by decide +kernel) inferInstance ?_
        (refine jjK rfl ?_; refine jjG ?_; refine jjB ?_)
        refine rest x hL' _ _ hS5 (by ((refine Same.upd rfl ?_; refine Same.upd rfl ?_; refine Same.upd rfl ?_; refine Same.upd rfl ?_; refine Same.upd rfl ?_; refine Same.upd rfl ?_; refine Same.upd rfl ?_; refine Same.upd rfl ?_; refine Same.upd rfl ?_; refine Same.upd rfl ?_; refine Same.upd rfl ?_; refine Same.upd rfl ?_; refine Same.upd rfl ?_; refine Same.upd rfl ?_; refine Same.upd rfl ?_; refine Same.upd rfl ?_; refine Same.upd rfl ?_; refine Same.upd rfl ?_; refine Same.upd rfl ?_; refine Same.upd rfl ?_; refine Same.upd rfl ?_; refine Same.upd rfl ?_; refine Same.upd rfl ?_; refine Same.upd rfl ?_; refine Same.upd rfl ?_; refine Same.upd rfl ?_; refine Same.upd rfl ?_; refine Same.upd rfl ?_; exact Same.ovN))) ?_
        exact ⟨eS rfl, eB rfl, eS rfl, eI rfl, eI rfl, eI rfl, eI rfl, eI rfl, eI rfl, eS rfl, eI rfl, eI rfl, trivial⟩
      by_cases hx : x < 0
      · have hL' : LasI d ((m : Int) - 1) (k + 1) (k : Int) := by
          have e : x = -1 := by rcases hL with ⟨h, _⟩ | ⟨_, _, h, _⟩ <;> omega
          subst e
          exact hL.first e1
        skip
        refine W.draw (fun w' => Ext V4 w') ?_
        intro w5 hS5
        refine jjV [0, 1, 2, 3, 4, 5, 6, 7, 8, 9, 10, 11, 12, 13, 14, 15, 16, 17, 18] (by decide +kernel) hS5.ext ?_
        (((apply jjT; exact rfl; rintro w' hq; have := hq.toStep; apply jI; exact eI rfl; refine jz ?_; exact ⟨rfl, rfl⟩; apply jjT; exact rfl; rintro w' hq; have := hq.toStep; apply jI; exact eI rfl; refine jz ?_; exact ⟨rfl, rfl⟩; apply jjT; exact rfl; rintro w' hq; have := hq.toStep; refine jZ rfl rfl (by omega) ?_; refine jz ?_; exact ⟨rfl, rfl⟩; apply jjT; exact rfl; rintro w' hq; have := hq.toStep; refine jjh rfl rfl (by omega) ?_; refine jz ?_; exact ⟨rfl, rfl⟩; apply jjT; exact rfl; rintro w' hq; have := hq.toStep; apply jI; exact eB rfl; refine jz ?_; exact ⟨rfl, rfl⟩; apply jjT; exact rfl; rintro w' hq; have := hq.toStep; refine jT rfl rfl rfl ?_; apply jI; exact eI rfl; refine jz ?_; exact ⟨rfl, rfl⟩; apply jjT; exact rfl; rintro w' hq; have := hq.toStep; refine jT rfl rfl rfl ?_; refine jjZ rfl rfl (by omega) ?_; refine jz ?_; exact ⟨rfl, rfl⟩; apply jjT; exact rfl; rintro w' hq; have := hq.toStep; refine jT rfl rfl rfl ?_; apply jI; exact eB rfl; refine jz ?_; exact ⟨rfl, rfl⟩; apply jjT; exact rfl; rintro w' hq; have := hq.toStep; refine jU rfl rfl rfl rfl ?_; refine jz ?_; exact ⟨rfl, rfl⟩; apply jjT; exact rfl; rintro w' hq; have := hq.toStep; refine jU rfl rfl rfl rfl ?_; refine jz ?_; exact ⟨rfl, rfl⟩; apply jjT; exact rfl; rintro w' hq; have := hq.toStep; refine jU rfl rfl rfl rfl ?_; refine jz ?_; exact ⟨rfl, rfl⟩; apply jjT; exact rfl; rintro w' hq; have := hq.toStep; refine jU rfl rfl rfl rfl ?_; refine jz ?_; exact ⟨rfl, rfl⟩; apply jjT; exact rfl; rintro w' hq; have := hq.toStep; refine jU rfl rfl rfl rfl ?_; refine jz ?_; exact ⟨rfl, rfl⟩; apply jjT; exact rfl; rintro w' hq; have := hq.toStep; refine jU rfl rfl rfl rfl ?_; refine jz ?_; exact ⟨rfl, rfl⟩; apply jjT; exact rfl; rintro w' hq; have := hq.toStep; refine jU rfl rfl rfl rfl ?_; refine jz ?_; exact ⟨rfl, rfl⟩; apply jjT; exact rfl; rintro w' hq; have := hq.toStep; refine jU rfl rfl rfl rfl ?_; refine jz ?_; exact ⟨rfl, rfl⟩; apply jjT; exact rfl; rintro w' hq; have := hq.toStep; refine jU rfl rfl rfl rfl ?_; refine jz ?_; exact ⟨rfl, rfl⟩; apply jjT; exact rfl; rintro w' hq; have := hq.toStep; refine jT rfl rfl rfl ?_; apply jK rfl; exact eB rfl; refine jz ?_; exact ⟨rfl, rfl⟩; apply jjT; exact rfl; rintro w' hq; have := hq.toStep; apply jK rfl; exact eB rfl; refine jz ?_; exact ⟨rfl, rfl⟩; refine jjU ?_)))
        refine jjX (by decide +kernel) inferInstance ?_
        (refine jjJ rfl ?_; refine jjC ?_; apply jI; exact eI rfl; apply jJ; exact eI rfl; refine jz ?_; refine jjB ?_)
        refine rest (k : Int) hL' _ _ hS5 (by ((refine Same.upd rfl ?_; refine Same.upd rfl ?_; refine Same.upd rfl ?_; refine Same.upd rfl ?_; refine Same.upd rfl ?_; refine Same.upd rfl ?_; refine Same.upd rfl ?_; refine Same.upd rfl ?_; refine Same.upd rfl ?_; refine Same.upd rfl ?_; refine Same.upd rfl ?_; refine Same.upd rfl ?_; refine Same.upd rfl ?_; refine Same.upd rfl ?_; refine Same.upd rfl ?_; refine Same.upd rfl ?_; refine Same.upd rfl ?_; refine Same.upd rfl ?_; refine Same.upd rfl ?_; refine Same.upd rfl ?_; refine Same.upd rfl ?_; refine Same.upd rfl ?_; refine Same.upd rfl ?_; refine Same.upd rfl ?_; refine Same.upd rfl ?_; refine Same.upd rfl ?_; refine Same.upd rfl ?_; refine Same.upd rfl ?_; refine Same.upd rfl ?_; refine Same.upd rfl ?_; exact Same.ovN))) ?_
        exact ⟨eS rfl, eB rfl, eS rfl, eI rfl, eI rfl, eI rfl, eI rfl, eI rfl, eI rfl, eS rfl, eI rfl, eI rfl, trivial⟩
      obtain ⟨j, rfl⟩ : ∃ j : Nat, x = (j : Int) := ⟨x.toNat, by omega⟩
      have hjk : j < k := by rcases hL with ⟨h, _⟩ | ⟨_, h1, h, _⟩ <;> omega
      skip
      refine W.draw (fun w' => Ext V4 w') ?_
      intro w5 hS5
      refine jjV [0, 1, 2, 3, 4, 5, 6, 7, 8, 9] (by decide +kernel) hS5.ext ?_
      (((apply jjT; exact rfl; rintro w' hq; have := hq.toStep; apply jI; exact eI rfl; refine jz ?_; exact ⟨rfl, rfl⟩; apply jjT; exact rfl; rintro w' hq; have := hq.toStep; apply jI; exact eI rfl; refine jz ?_; exact ⟨rfl, rfl⟩; apply jjT; exact rfl; rintro w' hq; have := hq.toStep; refine jZ rfl rfl (by omega) ?_; refine jz ?_; exact ⟨rfl, rfl⟩; apply jjT; exact rfl; rintro w' hq; have := hq.toStep; refine jjh rfl rfl (by omega) ?_; refine jz ?_; exact ⟨rfl, rfl⟩; apply jjT; exact rfl; rintro w' hq; have := hq.toStep; apply jI; exact eB rfl; refine jz ?_; exact ⟨rfl, rfl⟩; apply jjT; exact rfl; rintro w' hq; have := hq.toStep; refine jT rfl rfl rfl ?_; apply jI; exact eI rfl; refine jz ?_; exact ⟨rfl, rfl⟩; apply jjT; exact rfl; rintro w' hq; have := hq.toStep; refine jT rfl rfl rfl ?_; refine jja rfl rfl (by omega) ?_; refine jz ?_; exact ⟨rfl, rfl⟩; apply jjT; exact rfl; rintro w' hq; have := hq.toStep; refine jT rfl rfl rfl ?_; apply jI; exact eB rfl; refine jz ?_; exact ⟨rfl, rfl⟩; apply jjT; exact rfl; rintro w' hq; have := hq.toStep; refine jT rfl rfl rfl ?_; apply jI; exact eS rfl; refine jz ?_; exact ⟨rfl, rfl⟩; apply jjT; exact rfl; rintro w' hq; have := hq.toStep; refine jT rfl rfl rfl ?_; apply jI; exact eI rfl; refine jz ?_; exact ⟨rfl, rfl⟩; refine jjU ?_)))
      refine jjV [10] (by decide +kernel) hS5.ext (jjT (v := .pointer (some ⟨pb, po + k * 1, none⟩)) rfl (fun w' q1 => ?_) (jjU ?_)); (refine jT rfl rfl rfl ?_; refine jH k rfl rfl rfl (by omega) ?_; refine jz ?_; exact ⟨rfl, rfl⟩)
      refine jjV [11] (by decide +kernel) hS5.ext (jjT (v := .int .i64 (gd d k)) rfl (fun w' q1 => ?_) (jjU ?_)); (refine jT rfl rfl rfl ?_; refine jR (((Dat V4 k hEV4 hk1).ext q1).get (i := 0) rfl) rfl rfl ?_; refine jz ?_; exact ⟨rfl, rfl⟩)
      refine jjV [12, 13] (by decide +kernel) hS5.ext ?_
      (((apply jjT; exact rfl; rintro w' hq; have := hq.toStep; refine jT rfl rfl rfl ?_; apply jI; exact eS rfl; refine jz ?_; exact ⟨rfl, rfl⟩; apply jjT; exact rfl; rintro w' hq; have := hq.toStep; refine jT rfl rfl rfl ?_; apply jI; exact eI rfl; refine jz ?_; exact ⟨rfl, rfl⟩; refine jjU ?_)))
      refine jjV [14] (by decide +kernel) hS5.ext (jjT (v := .pointer (some ⟨pb, po + j * 1, none⟩)) rfl (fun w' q1 => ?_) (jjU ?_)); (refine jT rfl rfl rfl ?_; refine jH j rfl rfl rfl (by omega) ?_; refine jz ?_; exact ⟨rfl, rfl⟩)
      refine jjV [15] (by decide +kernel) hS5.ext (jjT (v := .int .i64 (gd d j)) rfl (fun w' q1 => ?_) (jjU ?_)); (refine jT rfl rfl rfl ?_; refine jR (((Dat V4 j hEV4 (by omega)).ext q1).get (i := 0) rfl) rfl rfl ?_; refine jz ?_; exact ⟨rfl, rfl⟩)
      by_cases hge : gd d j ≤ gd d k
      · have hL' := hL.new e1 hge
        refine jjV [16, 17, 18] (by decide +kernel) hS5.ext ?_
        (((apply jjT; exact rfl; rintro w' hq; have := hq.toStep; refine jT rfl rfl rfl ?_; refine jjf rfl rfl (by omega) ?_; refine jz ?_; exact ⟨rfl, rfl⟩; apply jjT; exact rfl; rintro w' hq; have := hq.toStep; refine jT rfl rfl rfl ?_; apply jL rfl; exact eB rfl; refine jz ?_; exact ⟨rfl, rfl⟩; apply jjT; exact rfl; rintro w' hq; have := hq.toStep; apply jK rfl; exact eB rfl; refine jz ?_; exact ⟨rfl, rfl⟩; refine jjU ?_)))
        refine jjX (by decide +kernel) inferInstance ?_
        (refine jjJ rfl ?_; refine jjC ?_; apply jI; exact eI rfl; apply jJ; exact eI rfl; refine jz ?_; refine jjB ?_)
        refine rest (k : Int) hL' _ _ hS5 (by ((refine Same.upd rfl ?_; refine Same.upd rfl ?_; refine Same.upd rfl ?_; refine Same.upd rfl ?_; refine Same.upd rfl ?_; refine Same.upd rfl ?_; refine Same.upd rfl ?_; refine Same.upd rfl ?_; refine Same.upd rfl ?_; refine Same.upd rfl ?_; refine Same.upd rfl ?_; refine Same.upd rfl ?_; refine Same.upd rfl ?_; refine Same.upd rfl ?_; refine Same.upd rfl ?_; refine Same.upd rfl ?_; refine Same.upd rfl ?_; refine Same.upd rfl ?_; refine Same.upd rfl ?_; refine Same.upd rfl ?_; refine Same.upd rfl ?_; refine Same.upd rfl ?_; refine Same.upd rfl ?_; refine Same.upd rfl ?_; refine Same.upd rfl ?_; refine Same.upd rfl ?_; refine Same.upd rfl ?_; refine Same.upd rfl ?_; refine Same.upd rfl ?_; refine Same.upd rfl ?_; exact Same.ovN))) ?_
        exact ⟨eS rfl, eB rfl, eS rfl, eI rfl, eI rfl, eI rfl, eI rfl, eI rfl, eI rfl, eS rfl, eI rfl, eI rfl, trivial⟩
      · have hL' := hL.old (by omega)
        refine jjV [16, 17, 18] (by decide +kernel) hS5.ext ?_
        (((apply jjT; exact rfl; rintro w' hq; have := hq.toStep; refine jT rfl rfl rfl ?_; refine jjg rfl rfl (by omega) ?_; refine jz ?_; exact ⟨rfl, rfl⟩; apply jjT; exact rfl; rintro w' hq; have := hq.toStep; refine jT rfl rfl rfl ?_; apply jL rfl; exact eB rfl; refine jz ?_; exact ⟨rfl, rfl⟩; apply jjT; exact rfl; rintro w' hq; have := hq.toStep; apply jK rfl; exact eB rfl; refine jz ?_; exact ⟨rfl, rfl⟩; refine jjU ?_)))
        refine jjX (by decide +kernel) inferInstance ?_
        (refine jjK rfl ?_; refine jjG ?_; refine jjB ?_)
        refine rest (j : Int) hL' _ _ hS5 (by ((refine Same.upd rfl ?_; refine Same.upd rfl ?_; refine Same.upd rfl ?_; refine Same.upd rfl ?_; refine Same.upd rfl ?_; refine Same.upd rfl ?_; refine Same.upd rfl ?_; refine Same.upd rfl ?_; refine Same.upd rfl ?_; refine Same.upd rfl ?_; refine Same.upd rfl ?_; refine Same.upd rfl ?_; refine Same.upd rfl ?_; refine Same.upd rfl ?_; refine Same.upd rfl ?_; refine Same.upd rfl ?_; refine Same.upd rfl ?_; refine Same.upd rfl ?_; refine Same.upd rfl ?_; refine Same.upd rfl ?_; refine Same.upd rfl ?_; refine Same.upd rfl ?_; refine Same.upd rfl ?_; refine Same.upd rfl ?_; refine Same.upd rfl ?_; refine Same.upd rfl ?_; refine Same.upd rfl ?_; refine Same.upd rfl ?_; exact Same.ovN))) ?_
        exact ⟨eS rfl, eB rfl, eS rfl, eI rfl, eI rfl, eI rfl, eI rfl, eI rfl, eI rfl, eS rfl, eI rfl, eI rfl, trivial⟩
    intro x' hL' s5 V6 hS6 hSm
    have hEV6 : Ext w V6 := inferInstance
    by_cases e1 : gd (numF d) k = (m : Int)
    rotate_left
    · have hF' := hF.skip e1
      skip
      refine W.draw (fun w' => Ext V6 w') ?_
      intro w5 hS5
      refine jjV [0, 1, 2, 3, 4, 5, 6, 7, 8, 9, 10, 11, 12, 13, 14, 15, 16, 17] (by decide +kernel) hS5.ext ?_
      (((apply jjT; exact rfl; rintro w' hq; have := hq.toStep; apply jI; exact eI rfl; refine jz ?_; exact ⟨rfl, rfl⟩; apply jjT; exact rfl; rintro w' hq; have := hq.toStep; apply jI; exact eI rfl; refine jz ?_; exact ⟨rfl, rfl⟩; apply jjT; exact rfl; rintro w' hq; have := hq.toStep; refine jji rfl rfl (by omega) ?_; refine jz ?_; exact ⟨rfl, rfl⟩; apply jjT; exact rfl; rintro w' hq; have := hq.toStep; apply jI; exact eB rfl; refine jz ?_; exact ⟨rfl, rfl⟩; apply jjT; exact rfl; rintro w' hq; have := hq.toStep; refine jU rfl rfl rfl rfl ?_; refine jz ?_; exact ⟨rfl, rfl⟩; apply jjT; exact rfl; rintro w' hq; have := hq.toStep; refine jU rfl rfl rfl rfl ?_; refine jz ?_; exact ⟨rfl, rfl⟩; apply jjT; exact rfl; rintro w' hq; have := hq.toStep; refine jU rfl rfl rfl rfl ?_; refine jz ?_; exact ⟨rfl, rfl⟩; apply jjT; exact rfl; rintro w' hq; have := hq.toStep; refine jV rfl rfl ?_; refine jz ?_; exact ⟨rfl, rfl⟩; apply jjT; exact rfl; rintro w' hq; have := hq.toStep; refine jV rfl rfl ?_; refine jz ?_; exact ⟨rfl, rfl⟩; apply jjT; exact rfl; rintro w' hq; have := hq.toStep; refine jV rfl rfl ?_; refine jz ?_; exact ⟨rfl, rfl⟩; apply jjT; exact rfl; rintro w' hq; have := hq.toStep; refine jV rfl rfl ?_; refine jz ?_; exact ⟨rfl, rfl⟩; apply jjT; exact rfl; rintro w' hq; have := hq.toStep; refine jV rfl rfl ?_; refine jz ?_; exact ⟨rfl, rfl⟩; apply jjT; exact rfl; rintro w' hq; have := hq.toStep; refine jV rfl rfl ?_; refine jz ?_; exact ⟨rfl, rfl⟩; apply jjT; exact rfl; rintro w' hq; have := hq.toStep; refine jV rfl rfl ?_; refine jz ?_; exact ⟨rfl, rfl⟩; apply jjT; exact rfl; rintro w' hq; have := hq.toStep; refine jV rfl rfl ?_; refine jz ?_; exact ⟨rfl, rfl⟩; apply jjT; exact rfl; rintro w' hq; have := hq.toStep; refine jV rfl rfl ?_; refine jz ?_; exact ⟨rfl, rfl⟩; apply jjT; exact rfl; rintro w' hq; have := hq.toStep; refine jU rfl rfl rfl rfl ?_; refine jz ?_; exact ⟨rfl, rfl⟩; apply jjT; exact rfl; rintro w' hq; have := hq.toStep; apply jL rfl; exact eB rfl; refine jz ?_; exact ⟨rfl, rfl⟩; refine jjU ?_)))
      refine jjX (by decide +kernel) inferInstance ?_
      (refine jjK rfl ?_; refine jjG ?_; refine jjC ?_; refine jY rfl rfl (by omega) ?_; apply jI; exact eI rfl; refine jz ?_)
      exact ⟨rfl, by ((refine Same.upd rfl ?_; refine Same.upd rfl ?_; refine Same.upd rfl ?_; refine Same.upd rfl ?_; refine Same.upd rfl ?_; refine Same.upd rfl ?_; refine Same.upd rfl ?_; refine Same.upd rfl ?_; refine Same.upd rfl ?_; refine Same.upd rfl ?_; refine Same.upd rfl ?_; refine Same.upd rfl ?_; refine Same.upd rfl ?_; refine Same.upd rfl ?_; refine Same.upd rfl ?_; refine Same.upd rfl ?_; refine Same.upd rfl ?_; refine Same.upd rfl ?_; refine Same.upd rfl ?_; refine Same.upd rfl ?_; assumption)), d.length - (k + 1), by omega, inferInstance, k + 1, x', y, congrArg (Value.int .i64) (by omega), rfl, rfl, rfl, by omega, hL', hF'⟩
    by_cases hy : y < 0
    · have hF' : FstI d (m : Int) (k + 1) (k : Int) := by
        have e : y = -1 := by rcases hF with ⟨h, _⟩ | ⟨_, _, h, _⟩ <;> omega
        subst e
        exact hF.first e1
      skip
      refine W.draw (fun w' => Ext V6 w') ?_
      intro w5 hS5
      refine jjV [0, 1, 2, 3, 4, 5, 6, 7, 8, 9, 10, 11, 12, 13, 14, 15, 16, 17] (by decide +kernel) hS5.ext ?_
      (((apply jjT; exact rfl; rintro w' hq; have := hq.toStep; apply jI; exact eI rfl; refine jz ?_; exact ⟨rfl, rfl⟩; apply jjT; exact rfl; rintro w' hq; have := hq.toStep; apply jI; exact eI rfl; refine jz ?_; exact ⟨rfl, rfl⟩; apply jjT; exact rfl; rintro w' hq; have := hq.toStep; refine jjh rfl rfl (by omega) ?_; refine jz ?_; exact ⟨rfl, rfl⟩; apply jjT; exact rfl; rintro w' hq; have := hq.toStep; apply jI; exact eB rfl; refine jz ?_; exact ⟨rfl, rfl⟩; apply jjT; exact rfl; rintro w' hq; have := hq.toStep; refine jT rfl rfl rfl ?_; apply jI; exact eI rfl; refine jz ?_; exact ⟨rfl, rfl⟩; apply jjT; exact rfl; rintro w' hq; have := hq.toStep; refine jT rfl rfl rfl ?_; refine jjZ rfl rfl (by omega) ?_; refine jz ?_; exact ⟨rfl, rfl⟩; apply jjT; exact rfl; rintro w' hq; have := hq.toStep; refine jT rfl rfl rfl ?_; apply jI; exact eB rfl; refine jz ?_; exact ⟨rfl, rfl⟩; apply jjT; exact rfl; rintro w' hq; have := hq.toStep; refine jU rfl rfl rfl rfl ?_; refine jz ?_; exact ⟨rfl, rfl⟩; apply jjT; exact rfl; rintro w' hq; have := hq.toStep; refine jU rfl rfl rfl rfl ?_; refine jz ?_; exact ⟨rfl, rfl⟩; apply jjT; exact rfl; rintro w' hq; have := hq.toStep; refine jU rfl rfl rfl rfl ?_; refine jz ?_; exact ⟨rfl, rfl⟩; apply jjT; exact rfl; rintro w' hq; have := hq.toStep; refine jU rfl rfl rfl rfl ?_; refine jz ?_; exact ⟨rfl, rfl⟩; apply jjT; exact rfl; rintro w' hq; have := hq.toStep; refine jU rfl rfl rfl rfl ?_; refine jz ?_; exact ⟨rfl, rfl⟩; apply jjT; exact rfl; rintro w' hq; have := hq.toStep; refine jU rfl rfl rfl rfl ?_; refine jz ?_; exact ⟨rfl, rfl⟩; apply jjT; exact rfl; rintro w' hq; have := hq.toStep; refine jU rfl rfl rfl rfl ?_; refine jz ?_; exact ⟨rfl, rfl⟩; apply jjT; exact rfl; rintro w' hq; have := hq.toStep; refine jU rfl rfl rfl rfl ?_; refine jz ?_; exact ⟨rfl, rfl⟩; apply jjT; exact rfl; rintro w' hq; have := hq.toStep; refine jU rfl rfl rfl rfl ?_; refine jz ?_; exact ⟨rfl, rfl⟩; apply jjT; exact rfl; rintro w' hq; have := hq.toStep; refine jT rfl rfl rfl ?_; apply jK rfl; exact eB rfl; refine jz ?_; exact ⟨rfl, rfl⟩; apply jjT; exact rfl; rintro w' hq; have := hq.toStep; apply jK rfl; exact eB rfl; refine jz ?_; exact ⟨rfl, rfl⟩; refine jjU ?_)))
      refine jjX (by decide +kernel) inferInstance ?_
      (refine jjJ rfl ?_; refine jjC ?_; apply jI; exact eI rfl; apply jJ; exact eI rfl; refine jz ?_; refine jjC ?_; refine jY rfl rfl (by omega) ?_; apply jI; exact eI rfl; refine jz ?_)
      exact ⟨rfl, by ((refine Same.upd rfl ?_; refine Same.upd rfl ?_; refine Same.upd rfl ?_; refine Same.upd rfl ?_; refine Same.upd rfl ?_; refine Same.upd rfl ?_; refine Same.upd rfl ?_; refine Same.upd rfl ?_; refine Same.upd rfl ?_; refine Same.upd rfl ?_; refine Same.upd rfl ?_; refine Same.upd rfl ?_; refine Same.upd rfl ?_; refine Same.upd rfl ?_; refine Same.upd rfl ?_; refine Same.upd rfl ?_; refine Same.upd rfl ?_; refine Same.upd rfl ?_; refine Same.upd rfl ?_; refine Same.upd rfl ?_; refine Same.upd rfl ?_; refine Same.upd rfl ?_; assumption)), d.length - (k + 1), by omega, inferInstance, k + 1, x', (k : Int), congrArg (Value.int .i64) (by omega), rfl, rfl, rfl, by omega, hL', hF'⟩
    obtain ⟨j, rfl⟩ : ∃ j : Nat, y = (j : Int) := ⟨y.toNat, by omega⟩
    have hjk : j < k := by rcases hF with ⟨h, _⟩ | ⟨_, h1, h, _⟩ <;> omega
    skip
    refine W.draw (fun w' => Ext V6 w') ?_
    intro w5 hS5
    refine jjV [0, 1, 2, 3, 4, 5, 6, 7, 8] (by decide +kernel) hS5.ext ?_
    (((apply jjT; exact rfl; rintro w' hq; have := hq.toStep; apply jI; exact eI rfl; refine jz ?_; exact ⟨rfl, rfl⟩; apply jjT; exact rfl; rintro w' hq; have := hq.toStep; apply jI; exact eI rfl; refine jz ?_; exact ⟨rfl, rfl⟩; apply jjT; exact rfl; rintro w' hq; have := hq.toStep; refine jjh rfl rfl (by omega) ?_; refine jz ?_; exact ⟨rfl, rfl⟩; apply jjT; exact rfl; rintro w' hq; have := hq.toStep; apply jI; exact eB rfl; refine jz ?_; exact ⟨rfl, rfl⟩; apply jjT; exact rfl; rintro w' hq; have := hq.toStep; refine jT rfl rfl rfl ?_; apply jI; exact eI rfl; refine jz ?_; exact ⟨rfl, rfl⟩; apply jjT; exact rfl; rintro w' hq; have := hq.toStep; refine jT rfl rfl rfl ?_; refine jja rfl rfl (by omega) ?_; refine jz ?_; exact ⟨rfl, rfl⟩; apply jjT; exact rfl; rintro w' hq; have := hq.toStep; refine jT rfl rfl rfl ?_; apply jI; exact eB rfl; refine jz ?_; exact ⟨rfl, rfl⟩; apply jjT; exact rfl; rintro w' hq; have := hq.toStep; refine jT rfl rfl rfl ?_; apply jI; exact eS rfl; refine jz ?_; exact ⟨rfl, rfl⟩; apply jjT; exact rfl; rintro w' hq; have := hq.toStep; refine jT rfl rfl rfl ?_; apply jI; exact eI rfl; refine jz ?_; exact ⟨rfl, rfl⟩; refine jjU ?_)))
    refine jjV [9] (by decide +kernel) hS5.ext (jjT (v := .pointer (some ⟨pb, po + k * 1, none⟩)) rfl (fun w' q1 => ?_) (jjU ?_)); (refine jT rfl rfl rfl ?_; refine jH k rfl rfl rfl (by omega) ?_; refine jz ?_; exact ⟨rfl, rfl⟩)
    refine jjV [10] (by decide +kernel) hS5.ext (jjT (v := .int .i64 (gd d k)) rfl (fun w' q1 => ?_) (jjU ?_)); (refine jT rfl rfl rfl ?_; refine jR (((Dat V6 k hEV6 hk1).ext q1).get (i := 0) rfl) rfl rfl ?_; refine jz ?_; exact ⟨rfl, rfl⟩)
    refine jjV [11, 12] (by decide +kernel) hS5.ext ?_
    (((apply jjT; exact rfl; rintro w' hq; have := hq.toStep; refine jT rfl rfl rfl ?_; apply jI; exact eS rfl; refine jz ?_; exact ⟨rfl, rfl⟩; apply jjT; exact rfl; rintro w' hq; have := hq.toStep; refine jT rfl rfl rfl ?_; apply jI; exact eI rfl; refine jz ?_; exact ⟨rfl, rfl⟩; refine jjU ?_)))
    refine jjV [13] (by decide +kernel) hS5.ext (jjT (v := .pointer (some ⟨pb, po + j * 1, none⟩)) rfl (fun w' q1 => ?_) (jjU ?_)); (refine jT rfl rfl rfl ?_; refine jH j rfl rfl rfl (by omega) ?_; refine jz ?_; exact ⟨rfl, rfl⟩)
    refine jjV [14] (by decide +kernel) hS5.ext (jjT (v := .int .i64 (gd d j)) rfl (fun w' q1 => ?_) (jjU ?_)); (refine jT rfl rfl rfl ?_; refine jR (((Dat V6 j hEV6 (by omega)).ext q1).get (i := 0) rfl) rfl rfl ?_; refine jz ?_; exact ⟨rfl, rfl⟩)
    by_cases hlt : gd d k < gd d j
    · have hF' := hF.new e1 hlt
      refine jjV [15, 16, 17] (by decide +kernel) hS5.ext ?_
      (((apply jjT; exact rfl; rintro w' hq; have := hq.toStep; refine jT rfl rfl rfl ?_; refine jjZ rfl rfl (by omega) ?_; refine jz ?_; exact ⟨rfl, rfl⟩; apply jjT; exact rfl; rintro w' hq; have := hq.toStep; refine jT rfl rfl rfl ?_; apply jL rfl; exact eB rfl; refine jz ?_; exact ⟨rfl, rfl⟩; apply jjT; exact rfl; rintro w' hq; have := hq.toStep; apply jK rfl; exact eB rfl; refine jz ?_; exact ⟨rfl, rfl⟩; refine jjU ?_)))
      refine jjX (by decide +kernel) inferInstance ?_
      (refine jjJ rfl ?_; refine jjC ?_; apply jI; exact eI rfl; apply jJ; exact eI rfl; refine jz ?_; refine jjC ?_; refine jY rfl rfl (by omega) ?_; apply jI; exact eI rfl; refine jz ?_)
      exact ⟨rfl, by ((refine Same.upd rfl ?_; refine Same.upd rfl ?_; refine Same.upd rfl ?_; refine Same.upd rfl ?_; refine Same.upd rfl ?_; refine Same.upd rfl ?_; refine Same.upd rfl ?_; refine Same.upd rfl ?_; refine Same.upd rfl ?_; refine Same.upd rfl ?_; refine Same.upd rfl ?_; refine Same.upd rfl ?_; refine Same.upd rfl ?_; refine Same.upd rfl ?_; refine Same.upd rfl ?_; refine Same.upd rfl ?_; refine Same.upd rfl ?_; refine Same.upd rfl ?_; refine Same.upd rfl ?_; refine Same.upd rfl ?_; refine Same.upd rfl ?_; refine Same.upd rfl ?_; assumption)), d.length - (k + 1), by omega, inferInstance, k + 1, x', (k : Int), congrArg (Value.int .i64) (by omega), rfl, rfl, rfl, by omega, hL', hF'⟩
    · have hF' := hF.old (by omega)
      refine jjV [15, 16, 17] (by decide +kernel) hS5.ext ?_
      (((apply jjT; exact rfl; rintro w' hq; have := hq.toStep; refine jT rfl rfl rfl ?_; refine jja rfl rfl (by omega) ?_; refine jz ?_; exact ⟨rfl, rfl⟩; apply jjT; exact rfl; rintro w' hq; have := hq.toStep; refine jT rfl rfl rfl ?_; apply jL rfl; exact eB rfl; refine jz ?_; exact ⟨rfl, rfl⟩; apply jjT; exact rfl; rintro w' hq; have := hq.toStep; apply jK rfl; exact eB rfl; refine jz ?_; exact ⟨rfl, rfl⟩; refine jjU ?_)))
      refine jjX (by decide +kernel) inferInstance ?_
      (refine jjK rfl ?_; refine jjG ?_; refine jjC ?_; refine jY rfl rfl (by omega) ?_; apply jI; exact eI rfl; refine jz ?_)
      exact ⟨rfl, by ((refine Same.upd rfl ?_; refine Same.upd rfl ?_; refine Same.upd rfl ?_; refine Same.upd rfl ?_; refine Same.upd rfl ?_; refine Same.upd rfl ?_; refine Same.upd rfl ?_; refine Same.upd rfl ?_; refine Same.upd rfl ?_; refine Same.upd rfl ?_; refine Same.upd rfl ?_; refine Same.upd rfl ?_; refine Same.upd rfl ?_; refine Same.upd rfl ?_; refine Same.upd rfl ?_; refine Same.upd rfl ?_; refine Same.upd rfl ?_; refine Same.upd rfl ?_; refine Same.upd rfl ?_; refine Same.upd rfl ?_; assumption)), d.length - (k + 1), by omega, inferInstance, k + 1, x', (j : Int), congrArg (Value.int .i64) (by omega), rfl, rfl, rfl, by omega, hL', hF'⟩
  obtain rfl : n = E := by omega
  (refine jjB ?_; refine jjB ?_; refine jjC ?_; apply jI; exact eI rfl; apply jI; exact eI rfl; refine jjc rfl rfl (by omega) ?_; refine jz ?_; refine jjK rfl ?_; refine jjE ?_; refine jjB ?_; refine jjB ?_; refine jjC ?_; apply jJ; exact eI rfl; refine jz ?_; refine jjD ?_)
  refine W.keep0 [(0, .slice a d.length c), (3, .bool true), (6, .int .i64 (n : Int)), (15, .int .i64 ((0 + 2 : Nat) : Int))] ⟨eS rfl, eB rfl, eI rfl, eI rfl, trivial⟩ fun s4 => ?_
  refine W.loop (170 :: 171 :: 175 :: 176 :: 177 :: 174 :: 178 :: 179 :: 16 :: 17 :: 180 :: 181 :: 182 :: 183 :: 184 :: 185 :: 186 :: 187 :: 188 :: 189 :: 190 :: 191 :: 192 :: 193 :: 194 :: 195 :: 196 :: 197 :: 198 :: 199 :: 200 :: 201 :: 202 :: 203 :: 204 :: 205 :: 206 :: 207 :: 208 :: 209 :: 2 :: 172 :: 173 :: 15 :: []) (fun g s' _ => ∃ b : Nat, s' 15 = .int .i64 ((b + 2 : Nat) : Int) ∧ g = 19 - b ∧ b ≤ 19) 19 ⟨0, rfl, rfl, Nat.zero_le _⟩ ?_
  rintro _ sd5 V5 hSV5 ⟨b, h15, rfl, hb⟩
  refine W.fix h15 ?_
  clear h15
  by_cases hb1 : b < 19
  rotate_left
  · (refine jjB ?_; refine jjB ?_; refine jjC ?_; apply jI; exact eI rfl; refine jjc rfl rfl (by omega) ?_; refine jz ?_; refine jjK rfl ?_; refine jjE ?_; refine jjB ?_; refine jjC ?_; apply jI; exact eB rfl; apply jJ; exact eB rfl; refine jz ?_; refine jjF ?_; refine jB rfl rfl ⟨inferInstance, ?_⟩)
    exact rfl
  (refine jjB ?_; refine jjB ?_; refine jjC ?_; apply jI; exact eI rfl; refine jjb rfl rfl (by omega) ?_; refine jz ?_; refine jjJ rfl ?_; refine jjG ?_; refine jjB ?_; refine jjD ?_; refine jjB ?_; refine jjC ?_; apply jI; exact eS rfl; apply jI; exact eI rfl)
  refine jjQ (Passes_rack a c d ((b + 2 : Nat) : Int) _ hl) rfl rfl ?_
  rintro _ w6 hS6 ⟨p, hp, rfl⟩
  rw [hop (b + 2) (by omega) (by omega), if_pos rfl, Int.toNat_natCast, ← hE] at hp
  rw [hop (b + 2) (by omega) (by omega)]
  have hz := hp.zero
  by_cases hn0 : n = 0
  · have hp0 : p = 0 := hz.2 hn0
    subst hp0
    (apply jI; exact eU rfl; refine ju rfl rfl ?_; refine ju rfl rfl ?_; apply jJ; exact eI rfl; apply jJ; exact eI rfl; refine jz ?_; refine jjB ?_; refine jjC ?_; apply jI; exact eI rfl; refine jjk rfl rfl (by omega) ?_; apply jI; exact eB rfl; refine jT rfl rfl rfl ?_; apply jI; exact eI rfl; refine jT rfl rfl rfl ?_; refine jjh rfl rfl (by omega) ?_; refine jT rfl rfl rfl ?_; apply jI; exact eI rfl; refine jT rfl rfl rfl ?_; refine jjh rfl rfl (by omega) ?_; refine jT rfl rfl rfl ?_)
    refine Ops.neqBB rfl rfl ?_
    (apply jL rfl; exact eB rfl; apply jI; exact eB rfl; refine jT rfl rfl rfl ?_; apply jI; exact eI rfl; refine jT rfl rfl rfl ?_; refine jje rfl rfl (by omega) ?_; refine jT rfl rfl rfl ?_; apply jI; exact eB rfl; refine jU rfl rfl rfl rfl ?_; refine jU rfl rfl rfl rfl ?_; refine jU rfl rfl rfl rfl ?_; refine jU rfl rfl rfl rfl ?_; refine jU rfl rfl rfl rfl ?_; refine jU rfl rfl rfl rfl ?_; refine jT rfl rfl rfl ?_; apply jL rfl; exact eB rfl; apply jL rfl; exact eB rfl; apply jI; exact eB rfl; refine jT rfl rfl rfl ?_; apply jI; exact eI rfl; refine jT rfl rfl rfl ?_; refine jje rfl rfl (by omega) ?_; refine jT rfl rfl rfl ?_; apply jI; exact eB rfl; refine jU rfl rfl rfl rfl ?_; refine jU rfl rfl rfl rfl ?_; refine jU rfl rfl rfl rfl ?_; refine jT rfl rfl rfl ?_; apply jL rfl; exact eB rfl; apply jL rfl; exact eB rfl; refine jz ?_; refine jjK rfl ?_; refine jjG ?_; refine jjC ?_; apply jI; exact eI rfl; refine jY rfl rfl (by omega) ?_; apply jJ; exact eI rfl; refine jz ?_)
    exact ⟨rfl, by ((refine Same.upd rfl ?_; refine Same.upd rfl ?_; refine Same.upd rfl ?_; refine Same.upd rfl ?_; refine Same.upd rfl ?_; refine Same.upd rfl ?_; refine Same.upd rfl ?_; refine Same.upd rfl ?_; refine Same.upd rfl ?_; refine Same.upd rfl ?_; refine Same.upd rfl ?_; refine Same.upd rfl ?_; refine Same.upd rfl ?_; refine Same.upd rfl ?_; refine Same.upd rfl ?_; refine Same.upd rfl ?_; refine Same.upd rfl ?_; refine Same.upd rfl ?_; refine Same.upd rfl ?_; refine Same.upd rfl ?_; refine Same.upd rfl ?_; refine Same.upd rfl ?_; refine Same.upd rfl ?_; refine Same.upd rfl ?_; refine Same.upd rfl ?_; refine Same.upd rfl ?_; refine Same.upd rfl ?_; refine Same.upd rfl ?_; refine Same.upd rfl ?_; refine Same.upd rfl ?_; refine Same.upd rfl ?_; refine Same.upd rfl ?_; refine Same.upd rfl ?_; refine Same.upd rfl ?_; refine Same.upd rfl ?_; refine Same.upd rfl ?_; refine Same.upd rfl ?_; refine Same.upd rfl ?_; refine Same.upd rfl ?_; refine Same.upd rfl ?_; refine Same.upd rfl ?_; refine Same.upd rfl ?_; refine Same.upd rfl ?_; refine Same.upd rfl ?_; exact Same.ovN)), 19 - (b + 1), by omega, inferInstance, b + 1, congrArg (Value.int .i64) (by omega), rfl, by omega⟩
  have hp0 : p ≠ 0 := fun e => hn0 (hz.1 e)
  have hone := hp.one (by omega)
  have hfew := hp.few (by omega)
  by_cases hnb : n < b + 2
  · have hp1 : p = 1 := hone.2 hnb
    (apply jI; exact eU rfl; refine ju rfl rfl ?_; refine ju rfl rfl ?_; apply jJ; exact eI rfl; apply jJ; exact eI rfl; refine jz ?_; refine jjB ?_; refine jjC ?_; apply jI; exact eI rfl; refine jjk rfl rfl (by omega) ?_; apply jI; exact eB rfl; refine jT rfl rfl rfl ?_; apply jI; exact eI rfl; refine jT rfl rfl rfl ?_; refine jji rfl rfl (by omega) ?_; refine jT rfl rfl rfl ?_; apply jI; exact eI rfl; refine jT rfl rfl rfl ?_; refine jji rfl rfl (by omega) ?_; refine jT rfl rfl rfl ?_)
    refine Ops.neqBB rfl rfl ?_
    (apply jL rfl; exact eB rfl; apply jI; exact eB rfl; refine jT rfl rfl rfl ?_; apply jI; exact eI rfl; refine jT rfl rfl rfl ?_; refine jjd rfl rfl (by omega) ?_; refine jT rfl rfl rfl ?_; apply jI; exact eB rfl; refine jT rfl rfl rfl ?_; apply jI; exact eI rfl; refine jT rfl rfl rfl ?_; refine jjh rfl rfl (by omega) ?_; refine jT rfl rfl rfl ?_; apply jI; exact eI rfl; refine jT rfl rfl rfl ?_; apply jI; exact eI rfl; refine jT rfl rfl rfl ?_; refine jjZ rfl rfl (by omega) ?_; refine jT rfl rfl rfl ?_)
    refine Ops.neqBB rfl rfl ?_
    (refine jT rfl rfl rfl ?_; apply jK rfl; exact eB rfl; apply jL rfl; exact eB rfl; apply jI; exact eB rfl; refine jT rfl rfl rfl ?_; apply jI; exact eI rfl; refine jT rfl rfl rfl ?_; refine jjd rfl rfl (by omega) ?_; refine jT rfl rfl rfl ?_; apply jI; exact eB rfl; refine jT rfl rfl rfl ?_; apply jI; exact eI rfl; refine jT rfl rfl rfl ?_; apply jI; exact eI rfl; refine jT rfl rfl rfl ?_; refine jje rfl rfl (by omega) ?_; refine jT rfl rfl rfl ?_; apply jK rfl; exact eB rfl; apply jL rfl; exact eB rfl; refine jz ?_; refine jjK rfl ?_; refine jjG ?_; refine jjC ?_; apply jI; exact eI rfl; refine jY rfl rfl (by omega) ?_; apply jJ; exact eI rfl; refine jz ?_)
    exact ⟨rfl, by ((refine Same.upd rfl ?_; refine Same.upd rfl ?_; refine Same.upd rfl ?_; refine Same.upd rfl ?_; refine Same.upd rfl ?_; refine Same.upd rfl ?_; refine Same.upd rfl ?_; refine Same.upd rfl ?_; refine Same.upd rfl ?_; refine Same.upd rfl ?_; refine Same.upd rfl ?_; refine Same.upd rfl ?_; refine Same.upd rfl ?_; refine Same.upd rfl ?_; refine Same.upd rfl ?_; refine Same.upd rfl ?_; refine Same.upd rfl ?_; refine Same.upd rfl ?_; refine Same.upd rfl ?_; refine Same.upd rfl ?_; refine Same.upd rfl ?_; refine Same.upd rfl ?_; refine Same.upd rfl ?_; refine Same.upd rfl ?_; refine Same.upd rfl ?_; refine Same.upd rfl ?_; refine Same.upd rfl ?_; refine Same.upd rfl ?_; refine Same.upd rfl ?_; refine Same.upd rfl ?_; refine Same.upd rfl ?_; refine Same.upd rfl ?_; refine Same.upd rfl ?_; refine Same.upd rfl ?_; refine Same.upd rfl ?_; refine Same.upd rfl ?_; refine Same.upd rfl ?_; refine Same.upd rfl ?_; refine Same.upd rfl ?_; refine Same.upd rfl ?_; refine Same.upd rfl ?_; refine Same.upd rfl ?_; refine Same.upd rfl ?_; refine Same.upd rfl ?_; exact Same.ovN)), 19 - (b + 1), by omega, inferInstance, b + 1, congrArg (Value.int .i64) (by omega), rfl, by omega⟩
  · have hp1 : p ≠ 1 := fun e => hnb (hone.1 e)
    (apply jI; exact eU rfl; refine ju rfl rfl ?_; refine ju rfl rfl ?_; apply jJ; exact eI rfl; apply jJ; exact eI rfl; refine jz ?_; refine jjB ?_; refine jjC ?_; apply jI; exact eI rfl; refine jjk rfl rfl (by omega) ?_; apply jI; exact eB rfl; refine jT rfl rfl rfl ?_; apply jI; exact eI rfl; refine jT rfl rfl rfl ?_; refine jji rfl rfl (by omega) ?_; refine jT rfl rfl rfl ?_; apply jI; exact eI rfl; refine jT rfl rfl rfl ?_; refine jji rfl rfl (by omega) ?_; refine jT rfl rfl rfl ?_)
    refine Ops.neqBB rfl rfl ?_
    (apply jL rfl; exact eB rfl; apply jI; exact eB rfl; refine jT rfl rfl rfl ?_; apply jI; exact eI rfl; refine jT rfl rfl rfl ?_; refine jjd rfl rfl (by omega) ?_; refine jT rfl rfl rfl ?_; apply jI; exact eB rfl; refine jT rfl rfl rfl ?_; apply jI; exact eI rfl; refine jT rfl rfl rfl ?_; refine jji rfl rfl (by omega) ?_; refine jT rfl rfl rfl ?_; apply jI; exact eI rfl; refine jT rfl rfl rfl ?_; apply jI; exact eI rfl; refine jT rfl rfl rfl ?_; refine jja rfl rfl (by omega) ?_; refine jT rfl rfl rfl ?_)
    refine Ops.neqBB rfl rfl ?_
    (refine jT rfl rfl rfl ?_; apply jK rfl; exact eB rfl; apply jL rfl; exact eB rfl; apply jI; exact eB rfl; refine jT rfl rfl rfl ?_; apply jI; exact eI rfl; refine jT rfl rfl rfl ?_; refine jjd rfl rfl (by omega) ?_; refine jT rfl rfl rfl ?_; apply jI; exact eB rfl; refine jT rfl rfl rfl ?_; apply jI; exact eI rfl; refine jT rfl rfl rfl ?_; apply jI; exact eI rfl; refine jT rfl rfl rfl ?_; refine jje rfl rfl (by omega) ?_; refine jT rfl rfl rfl ?_; apply jK rfl; exact eB rfl; apply jL rfl; exact eB rfl; refine jz ?_; refine jjK rfl ?_; refine jjG ?_; refine jjC ?_; apply jI; exact eI rfl; refine jY rfl rfl (by omega) ?_; apply jJ; exact eI rfl; refine jz ?_)
    exact ⟨rfl, by ((refine Same.upd rfl ?_; refine Same.upd rfl ?_; refine Same.upd rfl ?_; refine Same.upd rfl ?_; refine Same.upd rfl ?_; refine Same.upd rfl ?_; refine Same.upd rfl ?_; refine Same.upd rfl ?_; refine Same.upd rfl ?_; refine Same.upd rfl ?_; refine Same.upd rfl ?_; refine Same.upd rfl ?_; refine Same.upd rfl ?_; refine Same.upd rfl ?_; refine Same.upd rfl ?_; refine Same.upd rfl ?_; refine Same.upd rfl ?_; refine Same.upd rfl ?_; refine Same.upd rfl ?_; refine Same.upd rfl ?_; refine Same.upd rfl ?_; refine Same.upd rfl ?_; refine Same.upd rfl ?_; refine Same.upd rfl ?_; refine Same.upd rfl ?_; refine Same.upd rfl ?_; refine Same.upd rfl ?_; refine Same.upd rfl ?_; refine Same.upd rfl ?_; refine Same.upd rfl ?_; refine Same.upd rfl ?_; refine Same.upd rfl ?_; refine Same.upd rfl ?_; refine Same.upd rfl ?_; refine Same.upd rfl ?_; refine Same.upd rfl ?_; refine Same.upd rfl ?_; refine Same.upd rfl ?_; refine Same.upd rfl ?_; refine Same.upd rfl ?_; refine Same.upd rfl ?_; refine Same.upd rfl ?_; refine Same.upd rfl ?_; refine Same.upd rfl ?_; exact Same.ovN)), 19 - (b + 1), by omega, inferInstance, b + 1, congrArg (Value.int .i64) (by omega), rfl, by omega⟩
end
end Go.Proofs.YtpijeomnplmakaaGreatDoor
