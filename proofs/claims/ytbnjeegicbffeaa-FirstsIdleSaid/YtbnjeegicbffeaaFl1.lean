/- What the laws on First ask besides: are two lists the same. -/
import Derived.Test.YtbnjeegicbffeaaFs2
import Derived.Test.YtbnjeegicbffeaaLift
import Derived.Test.YtbnjeegicbffeaaSame
